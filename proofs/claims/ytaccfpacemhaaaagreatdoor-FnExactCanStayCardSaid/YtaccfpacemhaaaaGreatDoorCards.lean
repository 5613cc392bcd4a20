/-
  DERIVED. GIVEN WITH THE SEED: THE CARDS: each row of YtaccfpacemhaaaaGreatDoorRows.lean that lists a variable, with what it lists TIED to the program's text (the seventh form; the later family's looks); each row that meets fmt, with fmt's text TOLD by the authors' own Lean function (tested against real Go, not proved from fmt's source: count such statements apart). THE CARD IS WHAT COUNTS. Prove the row's statement (the work); the ties are given (YtaccfpacemhaaaaGreatDoorTie.lean); close each card by the builder's one call (the guide's Derived/Test/ToyasCard.lean, 'card_holds'). Laid BY PROGRAM, IN A SANDBOX (cutbox-door.mjs). By AI agents, Wed Nov 11 2026. No macro, syntax, notation, axiom, sorry.
-/
import Derived.Test.YtaccfpacemhaaaaGreatDoorRows
import GoSem.ClaimSeven
namespace Go.Proofs.YtaccfpacemhaaaaGreatDoor
namespace Rows

/-- THE TIED CARD OF 'laws.FnExactCanStay'. -/
def fnExactCanStayCard : Claim7 := { stood := { row := fnExactCanStayRow, standIns := [], harness := (true, "ebed9326073759e7b7cb05bea163dd5f8b0b9b48180873909cbf59401060ac34"), looks := true }, kinds := [], alts := [], laidByText := true, laidKinds := [.data, .data, .data, .data, .sentinel, .sentinel, .pinned], laidTests := true, laidLooks := .later }
def FnExactCanStayCardSaid : Prop := Claim7.holds Tryz.pinned (.plain (OpenSpec.ofChange fnExactCanStaySpec)) fnExactCanStayCard

/-- THE SECOND FORM's CARD OF 'laws.FnExactCanStay'. -/
def fnExactCanStayUptoCard : Claim7 := { stood := { row := fnExactCanStayUptoRow, standIns := [], harness := (true, "ebed9326073759e7b7cb05bea163dd5f8b0b9b48180873909cbf59401060ac34"), looks := true }, kinds := [], alts := [], laidByText := true, laidKinds := [.data, .data, .data, .data, .sentinel, .sentinel, .pinned], laidTests := true, laidLooks := .later }
def FnExactCanStayUptoCardSaid : Prop := Claim7.holds Tryz.pinned (.plain (OpenSpec.upto fnExactCanStaySpec)) fnExactCanStayUptoCard
end Rows
end Go.Proofs.YtaccfpacemhaaaaGreatDoor
