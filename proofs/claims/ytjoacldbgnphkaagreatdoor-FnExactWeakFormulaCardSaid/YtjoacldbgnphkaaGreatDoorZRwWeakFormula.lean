/-
  The law FnExactWeakFormula: for all arguments WeakFormula of the program returns what WeakFormula of the reference returns, the arguments are unmodified, and what comes back is shared with nothing. Condition: the package-level variables that the row lists hold what the program's text lays in them.
-/
import Derived.Test.YtjoacldbgnphkaaGreatDoorCards
import Derived.Test.YtjoacldbgnphkaaGreatDoorTie
import Derived.Test.YtjoacldbgnphkaaGreatDoorE1
import Derived.Test.YtjoacldbgnphkaaGreatDoorZRvWeakFormula
import Derived.Test.YtjoacldbgnphkaaGreatDoorZRuWeakFormula
import Derived.Test.YtjoacldbgnphkaaGreatDoorZRxWeakFormula
import Derived.Deep.DeepHandedRow
import Derived.Lib.LaidTab
import Derived.Stop.LaidErr
import Derived.Lay
import Derived.Shelf.Vars
import Derived.SevenTiedAt
namespace Go.Proofs.YtjoacldbgnphkaaGreatDoor
open Go Go.ChangeShapes Go.WideShapes Go.ChangeAt Go.RowKit


theorem said : Rows.FnExactWeakFormulaSaid :=
 OpenClaim.holds_of_wide 4 Tryz.f4 rfl rfl rfl rfl rfl rfl rfl ⟨rfl, rfl, rfl, rfl, rfl⟩ rfl rfl rfl rfl rfl (by kernel_rfl) Tryz.func4 closed_all
  (of_decide_eq_true (by kernel_rfl)) (by unfold Func.isWrapper; first | (rw [if_pos (by decide +kernel)]; kernel_rfl) | (rw [if_neg (by decide +kernel)]; exact ⟨rfl, rfl⟩))
  (fun os started H enc _ => lifted os started H enc)

theorem weakFormula_card : Rows.FnExactWeakFormulaCardSaid :=
 Claim7.holds_tied_plain_at .later [] _ _ _ _ said (fun _ h => by cases h) (by kernel_rfl) (fun _ h => by cases h) fnExactWeakFormula_row_tie rfl ⟨rfl, rfl⟩ card_main rfl row_plain card_goes

end Go.Proofs.YtjoacldbgnphkaaGreatDoor
