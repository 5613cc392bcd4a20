/-
  The law FnDeterminate answers true for all arguments: a system that is not determinate refuses, after the trace, the label with which the trace goes on; one that is, and does not diverge, has the failures of its deterministic system. Condition: the package-level variables that the row lists hold what the program's text lays in them.
-/
import Derived.Test.YthofaoabgbgbdaaGreatDoorCards
import Derived.Test.YthofaoabgbgbdaaGreatDoorTie
import Derived.Test.YthofaoabgbgbdaaGreatDoorG1
import Derived.Test.YthofaoabgbgbdaaGreatDoorZRvDeterminate
import Derived.Test.YthofaoabgbgbdaaGreatDoorZRuDeterminate
import Derived.Test.YthofaoabgbgbdaaGreatDoorZRxDeterminate
import Derived.Deep.DeepHandedRow
import Derived.Lib.LaidTab
import Derived.Stop.LaidErr
import Derived.Lay
import Derived.Shelf.Vars
import Derived.SevenTiedAt
namespace Go.Proofs.YthofaoabgbgbdaaGreatDoor
open Go Go.ChangeShapes Go.WideShapes Go.ChangeAt Go.RowKit


theorem said : Rows.FnDeterminateSaid :=
 OpenClaim.holds_of_wide 3 Tryz.f3 rfl rfl rfl rfl rfl rfl rfl ⟨rfl, rfl, rfl, rfl, rfl⟩ rfl rfl rfl rfl rfl (by kernel_rfl) Tryz.func3 closed_all
  (of_decide_eq_true (by kernel_rfl)) (by unfold Func.isWrapper; first | (rw [if_pos (by decide +kernel)]; kernel_rfl) | (rw [if_neg (by decide +kernel)]; exact ⟨rfl, rfl⟩))
  (fun os started H enc _ => lifted os started H enc)

theorem determinate_card : Rows.FnDeterminateCardSaid :=
 Claim7.holds_tied_plain_at .later [] _ _ _ _ said (fun _ h => by cases h) (by kernel_rfl) (fun _ h => by cases h) fnDeterminate_row_tie rfl ⟨rfl, rfl⟩ card_main rfl row_plain card_goes

end Go.Proofs.YthofaoabgbgbdaaGreatDoor
