/-
  Closed facts of the law FnLittleBrothers, beside its row.
-/
import Derived.Test.YtdkbbknhighebaaGreatDoorCards
import Derived.Test.YtdkbbknhighebaaGreatDoorTie
import Derived.Test.YtdkbbknhighebaaGreatDoorL1
import Derived.Deep.DeepHandedRow
import Derived.Lib.LaidTab
import Derived.Stop.LaidErr
import Derived.Lay
import Derived.Shelf.Vars
import Derived.SevenTiedAt
namespace Go.Proofs.YtdkbbknhighebaaGreatDoor
open Go Go.ChangeShapes Go.WideShapes Go.ChangeAt Go.RowKit


theorem row_plain (f : FuncId) (fn : Func) (hf : Tryz.pinned.checked.prog.funcNamed "loop.example/g01075/laws.FnLittleBrothers" = some f) (hfn : Tryz.pinned.checked.prog.funcs[f]? = some fn) :
  true = Tryz.pinned.checked.prog.looks [] ∧ ∀ (j : Nat) t, fn.params[j]? = some t → Tryz.pinned.checked.prog.wantsStandIn t = false := by
 obtain rfl : f = 3 := Option.some.inj ((show Tryz.prog.funcNamed "loop.example/g01075/laws.FnLittleBrothers" = some 3 by kernel_rfl).symm.trans hf) |>.symm
 obtain rfl : fn = Tryz.f3 := (Option.some.inj (Tryz.func3.symm.trans hfn)).symm
 refine ⟨by kernel_rfl, fun j t ht => ?_⟩
 rw [Tryz.params3] at ht
 have hm := Array.mem_of_getElem? ht
 simp only [List.mem_toArray, List.mem_cons, List.not_mem_nil, or_false] at hm
 rcases hm with rfl | rfl
 ·exact (show Tryz.prog.wantsStandIn 22 = false by kernel_rfl)
 ·exact (show Tryz.prog.wantsStandIn 22 = false by kernel_rfl)

/-- The program's main text. -/
theorem card_main : Tryz.pinned.checked.prog.mainIs = some (Rows.fnLittleBrothersCard.stood.harness.1, Rows.fnLittleBrothersCard.stood.harness.2.toList) := by kernel_rfl
/-- Which functions the law may reach by a pointer. -/
theorem card_goes : false = Rows.fnLittleBrothersRow.goesBy Tryz.pinned.checked.prog := by kernel_rfl

end Go.Proofs.YtdkbbknhighebaaGreatDoor
