/-
  DERIVED. GIVEN WITH THE SEED: THE CARDS: each row of YtodojigmhlkpeaaGreatDoorRows.lean that lists a variable, with what it lists TIED to the program's text (the seventh form; the later family's looks); each row that meets fmt, with fmt's text TOLD by the authors' own Lean function (tested against real Go, not proved from fmt's source: count such statements apart). THE CARD IS WHAT COUNTS. Prove the row's statement (the work); the ties are given (YtodojigmhlkpeaaGreatDoorTie.lean); close each card by the builder's one call (the guide's Derived/Test/ToyasCard.lean, 'card_holds'). Laid BY PROGRAM, IN A SANDBOX (cutbox-door.mjs). By AI agents, Wed Nov 11 2026. No macro, syntax, notation, axiom, sorry.
-/
import Derived.Test.YtodojigmhlkpeaaGreatDoorRows
import GoSem.ClaimSeven
namespace Go.Proofs.YtodojigmhlkpeaaGreatDoor
namespace Rows

/-- THE TIED CARD OF 'laws.FnExactNormalForm'. -/
def fnExactNormalFormCard : Claim7 := { stood := { row := fnExactNormalFormRow, standIns := [], harness := (true, "2c1d5205ab90b3ce33b3d39ffd636d9f62b82a69d8e382ce0dbddf76192a2638"), looks := true }, kinds := [], alts := [], laidByText := true, laidKinds := [.data, .data, .data, .data, .sentinel, .sentinel, .pinned], laidTests := true, laidLooks := .later }
def FnExactNormalFormCardSaid : Prop := Claim7.holds Tryz.pinned (.plain (OpenSpec.ofChange fnExactNormalFormSpec)) fnExactNormalFormCard

/-- THE SECOND FORM's CARD OF 'laws.FnExactNormalForm'. -/
def fnExactNormalFormUptoCard : Claim7 := { stood := { row := fnExactNormalFormUptoRow, standIns := [], harness := (true, "2c1d5205ab90b3ce33b3d39ffd636d9f62b82a69d8e382ce0dbddf76192a2638"), looks := true }, kinds := [], alts := [], laidByText := true, laidKinds := [.data, .data, .data, .data, .sentinel, .sentinel, .pinned], laidTests := true, laidLooks := .later }
def FnExactNormalFormUptoCardSaid : Prop := Claim7.holds Tryz.pinned (.plain (OpenSpec.upto fnExactNormalFormSpec)) fnExactNormalFormUptoCard
end Rows
end Go.Proofs.YtodojigmhlkpeaaGreatDoor
