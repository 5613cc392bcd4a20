/-
  The law FnExactRefinesFailures: for all arguments RefinesFailures of the program returns what RefinesFailures of the reference returns, the arguments are unmodified, and what comes back is shared with nothing. Condition: the package-level variables that the row lists hold what the program's text lays in them.
-/
import Derived.Test.YtpoleaekcjjedaaGreatDoorCards
import Derived.Test.YtpoleaekcjjedaaGreatDoorTie
import Derived.Test.YtpoleaekcjjedaaGreatDoorF1
import Derived.Test.YtpoleaekcjjedaaGreatDoorZRuRefinesFailures
import Derived.Deep.DeepHandedRow
import Derived.Lib.LaidTab
import Derived.Stop.LaidErr
import Derived.Lay
import Derived.Shelf.Vars
import Derived.SevenTiedAt
namespace Go.Proofs.YtpoleaekcjjedaaGreatDoor
open Go Go.ChangeShapes Go.WideShapes Go.ChangeAt Go.RowKit

theorem said : Rows.FnExactRefinesFailuresSaid :=
 OpenClaim.holds_of_wide 7 Tryz.f7 rfl rfl rfl rfl rfl rfl rfl ⟨rfl, rfl, rfl, rfl, rfl⟩ rfl rfl rfl rfl rfl (by kernel_rfl) Tryz.func7 closed_all
  (of_decide_eq_true (by kernel_rfl)) (by unfold Func.isWrapper; first | (rw [if_pos (by decide +kernel)]; kernel_rfl) | (rw [if_neg (by decide +kernel)]; exact ⟨rfl, rfl⟩))
  (fun os started H enc _ => lifted os started H enc)

theorem row_plain (f : FuncId) (fn : Func) (hf : Tryz.pinned.checked.prog.funcNamed "loop.example/g01075/laws.FnExactRefinesFailures" = some f) (hfn : Tryz.pinned.checked.prog.funcs[f]? = some fn) :
  true = Tryz.pinned.checked.prog.looks [] ∧ ∀ (j : Nat) t, fn.params[j]? = some t → Tryz.pinned.checked.prog.wantsStandIn t = false := by
 obtain rfl : f = 7 := Option.some.inj ((show Tryz.prog.funcNamed "loop.example/g01075/laws.FnExactRefinesFailures" = some 7 by kernel_rfl).symm.trans hf) |>.symm
 obtain rfl : fn = Tryz.f7 := (Option.some.inj (Tryz.func7.symm.trans hfn)).symm
 refine ⟨by kernel_rfl, fun j t ht => ?_⟩
 rw [Tryz.params7] at ht
 obtain rfl : t = 25 := by simpa using Array.mem_of_getElem? ht
 exact (show Tryz.prog.wantsStandIn 25 = false by kernel_rfl)

/-- The program's main text. -/
theorem card_main : Tryz.pinned.checked.prog.mainIs = some (Rows.fnExactRefinesFailuresCard.stood.harness.1, Rows.fnExactRefinesFailuresCard.stood.harness.2.toList) := by kernel_rfl
/-- Which functions the law may reach by a pointer. -/
theorem card_goes : false = Rows.fnExactRefinesFailuresRow.goesBy Tryz.pinned.checked.prog := by kernel_rfl
theorem refinesFailures_card : Rows.FnExactRefinesFailuresCardSaid :=
 Claim7.holds_tied_plain_at .later [] _ _ _ _ said (fun _ h => by cases h) (by kernel_rfl) (fun _ h => by cases h) fnExactRefinesFailures_row_tie rfl ⟨rfl, rfl⟩ card_main rfl row_plain card_goes

end Go.Proofs.YtpoleaekcjjedaaGreatDoor
