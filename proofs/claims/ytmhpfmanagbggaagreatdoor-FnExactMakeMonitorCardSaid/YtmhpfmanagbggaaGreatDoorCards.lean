/-
  DERIVED. GIVEN WITH THE SEED: THE CARDS: each row of YtmhpfmanagbggaaGreatDoorRows.lean that lists a variable, with what it lists TIED to the program's text (the seventh form; the later family's looks); each row that meets fmt, with fmt's text TOLD by the authors' own Lean function (tested against real Go, not proved from fmt's source: count such statements apart). THE CARD IS WHAT COUNTS. Prove the row's statement (the work); the ties are given (YtmhpfmanagbggaaGreatDoorTie.lean); close each card by the builder's one call (the guide's Derived/Test/ToyasCard.lean, 'card_holds'). Laid BY PROGRAM, IN A SANDBOX (cutbox-door.mjs). By AI agents, Wed Nov 11 2026. No macro, syntax, notation, axiom, sorry.
-/
import Derived.Test.YtmhpfmanagbggaaGreatDoorRows
import GoSem.ClaimSeven
namespace Go.Proofs.YtmhpfmanagbggaaGreatDoor
namespace Rows

/-- THE TIED CARD OF 'laws.FnExactMakeMonitor'. -/
def fnExactMakeMonitorCard : Claim7 := { stood := { row := fnExactMakeMonitorRow, standIns := [], harness := (true, "6f02d19e27fe1feecf438fc2a2c0d6c6dd58c06fe017062abd6919feccf6cf84"), looks := true }, kinds := [], alts := [], laidByText := true, laidKinds := [.data, .data, .data, .data, .sentinel, .sentinel, .pinned], laidTests := true, laidLooks := .later }
def FnExactMakeMonitorCardSaid : Prop := Claim7.holds Tryz.pinned (.plain (OpenSpec.ofChange fnExactMakeMonitorSpec)) fnExactMakeMonitorCard

/-- THE SECOND FORM's CARD OF 'laws.FnExactMakeMonitor'. -/
def fnExactMakeMonitorUptoCard : Claim7 := { stood := { row := fnExactMakeMonitorUptoRow, standIns := [], harness := (true, "6f02d19e27fe1feecf438fc2a2c0d6c6dd58c06fe017062abd6919feccf6cf84"), looks := true }, kinds := [], alts := [], laidByText := true, laidKinds := [.data, .data, .data, .data, .sentinel, .sentinel, .pinned], laidTests := true, laidLooks := .later }
def FnExactMakeMonitorUptoCardSaid : Prop := Claim7.holds Tryz.pinned (.plain (OpenSpec.upto fnExactMakeMonitorSpec)) fnExactMakeMonitorUptoCard
end Rows
end Go.Proofs.YtmhpfmanagbggaaGreatDoor
