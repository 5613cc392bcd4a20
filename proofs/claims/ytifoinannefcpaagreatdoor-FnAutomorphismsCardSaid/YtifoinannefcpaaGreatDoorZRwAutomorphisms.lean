/-
  The law FnAutomorphisms answers true for all arguments: the automorphisms of a system contain the composition of any two of them, and states that they exchange are strongly bisimilar. Condition: the package-level variables that the row lists hold what the program's text lays in them.
-/
import Derived.Test.YtifoinannefcpaaGreatDoorCards
import Derived.Test.YtifoinannefcpaaGreatDoorTie
import Derived.Test.YtifoinannefcpaaGreatDoorA1
import Derived.Test.YtifoinannefcpaaGreatDoorZRvAutomorphisms
import Derived.Test.YtifoinannefcpaaGreatDoorZRuAutomorphisms
import Derived.Test.YtifoinannefcpaaGreatDoorZRxAutomorphisms
import Derived.Deep.DeepHandedRow
import Derived.Lib.LaidTab
import Derived.Stop.LaidErr
import Derived.Lay
import Derived.Shelf.Vars
import Derived.SevenTiedAt
namespace Go.Proofs.YtifoinannefcpaaGreatDoor
open Go Go.ChangeShapes Go.WideShapes Go.ChangeAt Go.RowKit


theorem said : Rows.FnAutomorphismsSaid :=
 OpenClaim.holds_of_wide 3 Tryz.f3 rfl rfl rfl rfl rfl rfl rfl ⟨rfl, rfl, rfl, rfl, rfl⟩ rfl rfl rfl rfl rfl (by kernel_rfl) Tryz.func3 closed_all
  (of_decide_eq_true (by kernel_rfl)) (by unfold Func.isWrapper; first | (rw [if_pos (by decide +kernel)]; kernel_rfl) | (rw [if_neg (by decide +kernel)]; exact ⟨rfl, rfl⟩))
  (fun os started H enc _ => lifted os started H enc)

theorem automorphisms_card : Rows.FnAutomorphismsCardSaid :=
 Claim7.holds_tied_plain_at .later [] _ _ _ _ said (fun _ h => by cases h) (by kernel_rfl) (fun _ h => by cases h) fnAutomorphisms_row_tie rfl ⟨rfl, rfl⟩ card_main rfl row_plain card_goes

end Go.Proofs.YtifoinannefcpaaGreatDoor
