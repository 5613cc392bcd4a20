/-
  DERIVED. GIVEN WITH THE SEED: THE CARDS: each row of YtkffdamgekoifaaGreatDoorRows.lean that lists a variable, with what it lists TIED to the program's text (the seventh form; the later family's looks); each row that meets fmt, with fmt's text TOLD by the authors' own Lean function (tested against real Go, not proved from fmt's source: count such statements apart). THE CARD IS WHAT COUNTS. Prove the row's statement (the work); the ties are given (YtkffdamgekoifaaGreatDoorTie.lean); close each card by the builder's one call (the guide's Derived/Test/ToyasCard.lean, 'card_holds'). Laid BY PROGRAM, IN A SANDBOX (cutbox-door.mjs). By AI agents, Wed Nov 11 2026. No macro, syntax, notation, axiom, sorry.
-/
import Derived.Test.YtkffdamgekoifaaGreatDoorRows
import GoSem.ClaimSeven
namespace Go.Proofs.YtkffdamgekoifaaGreatDoor
namespace Rows

/-- THE TIED CARD OF 'laws.FnExactIsSupervisor'. -/
def fnExactIsSupervisorCard : Claim7 := { stood := { row := fnExactIsSupervisorRow, standIns := [], harness := (true, "632cdd2703f4d56fc343e1d14e2981ac0971dbe03a26e61ce57f90a3148a3b43"), looks := true }, kinds := [], alts := [], laidByText := true, laidKinds := [.data, .data, .data, .data, .sentinel, .sentinel, .pinned], laidTests := true, laidLooks := .later }
def FnExactIsSupervisorCardSaid : Prop := Claim7.holds Tryz.pinned (.plain (OpenSpec.ofChange fnExactIsSupervisorSpec)) fnExactIsSupervisorCard

/-- THE SECOND FORM's CARD OF 'laws.FnExactIsSupervisor'. -/
def fnExactIsSupervisorUptoCard : Claim7 := { stood := { row := fnExactIsSupervisorUptoRow, standIns := [], harness := (true, "632cdd2703f4d56fc343e1d14e2981ac0971dbe03a26e61ce57f90a3148a3b43"), looks := true }, kinds := [], alts := [], laidByText := true, laidKinds := [.data, .data, .data, .data, .sentinel, .sentinel, .pinned], laidTests := true, laidLooks := .later }
def FnExactIsSupervisorUptoCardSaid : Prop := Claim7.holds Tryz.pinned (.plain (OpenSpec.upto fnExactIsSupervisorSpec)) fnExactIsSupervisorUptoCard
end Rows
end Go.Proofs.YtkffdamgekoifaaGreatDoor
