/-
  The law FnEnforced answers true for all arguments: the enforced trace runs in the monitor without a bad verdict, an allowed trace is left as it is, and any other one becomes shorter. Condition: the package-level variables that the row lists hold what the program's text lays in them.
-/
import Derived.Test.YtmeibnhhlknbfaaGreatDoorCards
import Derived.Test.YtmeibnhhlknbfaaGreatDoorTie
import Derived.Test.YtmeibnhhlknbfaaGreatDoorF1
import Derived.Test.YtmeibnhhlknbfaaGreatDoorZRvEnforced
import Derived.Test.YtmeibnhhlknbfaaGreatDoorZRuEnforced
import Derived.Test.YtmeibnhhlknbfaaGreatDoorZRxEnforced
import Derived.Deep.DeepHandedRow
import Derived.Lib.LaidTab
import Derived.Stop.LaidErr
import Derived.Lay
import Derived.Shelf.Vars
import Derived.SevenTiedAt
namespace Go.Proofs.YtmeibnhhlknbfaaGreatDoor
open Go Go.ChangeShapes Go.WideShapes Go.ChangeAt Go.RowKit


theorem said : Rows.FnEnforcedSaid :=
 OpenClaim.holds_of_wide 3 Tryz.f3 rfl rfl rfl rfl rfl rfl rfl ⟨rfl, rfl, rfl, rfl, rfl⟩ rfl rfl rfl rfl rfl (by kernel_rfl) Tryz.func3 closed_all
  (of_decide_eq_true (by kernel_rfl)) (by unfold Func.isWrapper; first | (rw [if_pos (by decide +kernel)]; kernel_rfl) | (rw [if_neg (by decide +kernel)]; exact ⟨rfl, rfl⟩))
  (fun os started H enc _ => lifted os started H enc)

theorem enforced_card : Rows.FnEnforcedCardSaid :=
 Claim7.holds_tied_plain_at .later [] _ _ _ _ said (fun _ h => by cases h) (by kernel_rfl) (fun _ h => by cases h) fnEnforced_row_tie rfl ⟨rfl, rfl⟩ card_main rfl row_plain card_goes

end Go.Proofs.YtmeibnhhlknbfaaGreatDoor
