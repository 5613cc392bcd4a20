/-
  DERIVED. GIVEN WITH THE SEED: THE CARDS: each row of YtmeibnhhlknbfaaGreatDoorRows.lean that lists a variable, with what it lists TIED to the program's text (the seventh form; the later family's looks); each row that meets fmt, with fmt's text TOLD by the authors' own Lean function (tested against real Go, not proved from fmt's source: count such statements apart). THE CARD IS WHAT COUNTS. Prove the row's statement (the work); the ties are given (YtmeibnhhlknbfaaGreatDoorTie.lean); close each card by the builder's one call (the guide's Derived/Test/ToyasCard.lean, 'card_holds'). Laid BY PROGRAM, IN A SANDBOX (cutbox-door.mjs). By AI agents, Wed Nov 11 2026. No macro, syntax, notation, axiom, sorry.
-/
import Derived.Test.YtmeibnhhlknbfaaGreatDoorRows
import GoSem.ClaimSeven
namespace Go.Proofs.YtmeibnhhlknbfaaGreatDoor
namespace Rows

/-- THE TIED CARD OF 'laws.FnEnforced'. -/
def fnEnforcedCard : Claim7 := { stood := { row := fnEnforcedRow, standIns := [], harness := (true, "0748bcf51b9c7108c6bf3686279135d43e4f57a1872dcadba2b14beee190fb0f"), looks := true }, kinds := [], alts := [], laidByText := true, laidKinds := [.data, .data, .data, .data, .sentinel, .sentinel, .pinned], laidTests := true, laidLooks := .later }
def FnEnforcedCardSaid : Prop := Claim7.holds Tryz.pinned (.plain (OpenSpec.ofChange fnEnforcedSpec)) fnEnforcedCard

/-- THE SECOND FORM's CARD OF 'laws.FnEnforced'. -/
def fnEnforcedUptoCard : Claim7 := { stood := { row := fnEnforcedUptoRow, standIns := [], harness := (true, "0748bcf51b9c7108c6bf3686279135d43e4f57a1872dcadba2b14beee190fb0f"), looks := true }, kinds := [], alts := [], laidByText := true, laidKinds := [.data, .data, .data, .data, .sentinel, .sentinel, .pinned], laidTests := true, laidLooks := .later }
def FnEnforcedUptoCardSaid : Prop := Claim7.holds Tryz.pinned (.plain (OpenSpec.upto fnEnforcedSpec)) fnEnforcedUptoCard
end Rows
end Go.Proofs.YtmeibnhhlknbfaaGreatDoor
