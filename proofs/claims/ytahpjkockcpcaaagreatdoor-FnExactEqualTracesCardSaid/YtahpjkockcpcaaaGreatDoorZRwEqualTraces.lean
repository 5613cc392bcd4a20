/-
  The law FnExactEqualTraces: for all arguments EqualTraces of the program returns what EqualTraces of the reference returns, the arguments are unmodified, and what comes back is shared with nothing. Condition: the package-level variables that the row lists hold what the program's text lays in them.
-/
import Derived.Test.YtahpjkockcpcaaaGreatDoorCards
import Derived.Test.YtahpjkockcpcaaaGreatDoorTie
import Derived.Test.YtahpjkockcpcaaaGreatDoorC1
import Derived.Test.YtahpjkockcpcaaaGreatDoorZRuEqualTraces
import Derived.Deep.DeepHandedRow
import Derived.Lib.LaidTab
import Derived.Stop.LaidErr
import Derived.Lay
import Derived.Shelf.Vars
import Derived.SevenTiedAt
namespace Go.Proofs.YtahpjkockcpcaaaGreatDoor
open Go Go.ChangeShapes Go.WideShapes Go.ChangeAt Go.RowKit

theorem said : Rows.FnExactEqualTracesSaid :=
  OpenClaim.holds_of_wide 3 Tryz.f3 rfl rfl rfl rfl rfl rfl rfl ⟨rfl, rfl, rfl, rfl, rfl⟩ rfl rfl rfl rfl rfl (by kernel_rfl) Tryz.func3 closed_all
    (of_decide_eq_true (by kernel_rfl)) (by unfold Func.isWrapper; first | (rw [if_pos (by decide +kernel)]; kernel_rfl) | (rw [if_neg (by decide +kernel)]; exact ⟨rfl, rfl⟩))
    (fun os started H enc _ => lifted os started H enc)

theorem row_plain (f : FuncId) (fn : Func) (hf : Tryz.pinned.checked.prog.funcNamed "loop.example/g01075/laws.FnExactEqualTraces" = some f) (hfn : Tryz.pinned.checked.prog.funcs[f]? = some fn) :
    true = Tryz.pinned.checked.prog.looks [] ∧ ∀ (j : Nat) t, fn.params[j]? = some t → Tryz.pinned.checked.prog.wantsStandIn t = false := by
  obtain rfl : f = 3 := Option.some.inj ((show Tryz.prog.funcNamed "loop.example/g01075/laws.FnExactEqualTraces" = some 3 by kernel_rfl).symm.trans hf) |>.symm
  obtain rfl : fn = Tryz.f3 := (Option.some.inj (Tryz.func3.symm.trans hfn)).symm
  refine ⟨by kernel_rfl, fun j t ht => ?_⟩
  rw [Tryz.params3] at ht
  obtain rfl : t = 25 := by simpa using Array.mem_of_getElem? ht
  exact (show Tryz.prog.wantsStandIn 25 = false by kernel_rfl)

theorem equalTraces_card : Rows.FnExactEqualTracesCardSaid :=
  Claim7.holds_tied_plain_at .later [] _ _ _ _ said (fun _ h => by cases h) (by kernel_rfl) (fun _ h => by cases h) fnExactEqualTraces_row_tie rfl ⟨rfl, rfl⟩ (by kernel_rfl) rfl row_plain (by kernel_rfl)

end Go.Proofs.YtahpjkockcpcaaaGreatDoor
