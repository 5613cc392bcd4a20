/-
  The law FnQuiescence answers true for all arguments: in the suspended system a state has an edge to itself with delta exactly if it is quiescent, and no other edges are added. Condition: the package-level variables that the row lists hold what the program's text lays in them.
-/
import Derived.Test.YtnmkncioekdehaaGreatDoorCards
import Derived.Test.YtnmkncioekdehaaGreatDoorTie
import Derived.Test.YtnmkncioekdehaaGreatDoorY1
import Derived.Test.YtnmkncioekdehaaGreatDoorZRvQuiescence
import Derived.Test.YtnmkncioekdehaaGreatDoorZRuQuiescence
import Derived.Test.YtnmkncioekdehaaGreatDoorZRxQuiescence
import Derived.Deep.DeepHandedRow
import Derived.Lib.LaidTab
import Derived.Stop.LaidErr
import Derived.Lay
import Derived.Shelf.Vars
import Derived.SevenTiedAt
namespace Go.Proofs.YtnmkncioekdehaaGreatDoor
open Go Go.ChangeShapes Go.WideShapes Go.ChangeAt Go.RowKit


theorem said : Rows.FnQuiescenceSaid :=
 OpenClaim.holds_of_wide 3 Tryz.f3 rfl rfl rfl rfl rfl rfl rfl ⟨rfl, rfl, rfl, rfl, rfl⟩ rfl rfl rfl rfl rfl (by kernel_rfl) Tryz.func3 closed_all
  (of_decide_eq_true (by kernel_rfl)) (by unfold Func.isWrapper; first | (rw [if_pos (by decide +kernel)]; kernel_rfl) | (rw [if_neg (by decide +kernel)]; exact ⟨rfl, rfl⟩))
  (fun os started H enc _ => lifted os started H enc)

theorem quiescence_card : Rows.FnQuiescenceCardSaid :=
 Claim7.holds_tied_plain_at .later [] _ _ _ _ said (fun _ h => by cases h) (by kernel_rfl) (fun _ h => by cases h) fnQuiescence_row_tie rfl ⟨rfl, rfl⟩ card_main rfl row_plain card_goes

end Go.Proofs.YtnmkncioekdehaaGreatDoor
