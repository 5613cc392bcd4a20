/-
  The law FnLittleBrothers answers true for all arguments: the least system for simulation and the system that is drawn simulate each other, and the least one has neither little brothers nor two states that are below each other. Condition: the package-level variables that the row lists hold what the program's text lays in them.
-/
import Derived.Test.YtdkbbknhighebaaGreatDoorCards
import Derived.Test.YtdkbbknhighebaaGreatDoorTie
import Derived.Test.YtdkbbknhighebaaGreatDoorL1
import Derived.Test.YtdkbbknhighebaaGreatDoorZRvLittleBrothers
import Derived.Test.YtdkbbknhighebaaGreatDoorZRuLittleBrothers
import Derived.Test.YtdkbbknhighebaaGreatDoorZRxLittleBrothers
import Derived.Deep.DeepHandedRow
import Derived.Lib.LaidTab
import Derived.Stop.LaidErr
import Derived.Lay
import Derived.Shelf.Vars
import Derived.SevenTiedAt
namespace Go.Proofs.YtdkbbknhighebaaGreatDoor
open Go Go.ChangeShapes Go.WideShapes Go.ChangeAt Go.RowKit


theorem said : Rows.FnLittleBrothersSaid :=
 OpenClaim.holds_of_wide 3 Tryz.f3 rfl rfl rfl rfl rfl rfl rfl ⟨rfl, rfl, rfl, rfl, rfl⟩ rfl rfl rfl rfl rfl (by kernel_rfl) Tryz.func3 closed_all
  (of_decide_eq_true (by kernel_rfl)) (by unfold Func.isWrapper; first | (rw [if_pos (by decide +kernel)]; kernel_rfl) | (rw [if_neg (by decide +kernel)]; exact ⟨rfl, rfl⟩))
  (fun os started H enc _ => lifted os started H enc)

theorem littleBrothers_card : Rows.FnLittleBrothersCardSaid :=
 Claim7.holds_tied_plain_at .later [] _ _ _ _ said (fun _ h => by cases h) (by kernel_rfl) (fun _ h => by cases h) fnLittleBrothers_row_tie rfl ⟨rfl, rfl⟩ card_main rfl row_plain card_goes

end Go.Proofs.YtdkbbknhighebaaGreatDoor
