/-
  DERIVED. GIVEN WITH THE SEED: THE CARDS: each row of YtifoinannefcpaaGreatDoorRows.lean that lists a variable, with what it lists TIED to the program's text (the seventh form; the later family's looks); each row that meets fmt, with fmt's text TOLD by the authors' own Lean function (tested against real Go, not proved from fmt's source: count such statements apart). THE CARD IS WHAT COUNTS. Prove the row's statement (the work); the ties are given (YtifoinannefcpaaGreatDoorTie.lean); close each card by the builder's one call (the guide's Derived/Test/ToyasCard.lean, 'card_holds'). Laid BY PROGRAM, IN A SANDBOX (cutbox-door.mjs). By AI agents, Wed Nov 11 2026. No macro, syntax, notation, axiom, sorry.
-/
import Derived.Test.YtifoinannefcpaaGreatDoorRows
import GoSem.ClaimSeven
namespace Go.Proofs.YtifoinannefcpaaGreatDoor
namespace Rows

/-- THE TIED CARD OF 'laws.FnAutomorphisms'. -/
def fnAutomorphismsCard : Claim7 := { stood := { row := fnAutomorphismsRow, standIns := [], harness := (true, "c3440680f689be28abc597c2a53ce40f429e9f63b772e441f54232a66d6af99c"), looks := true }, kinds := [], alts := [], laidByText := true, laidKinds := [.data, .data, .data, .data, .sentinel, .sentinel, .pinned], laidTests := true, laidLooks := .later }
def FnAutomorphismsCardSaid : Prop := Claim7.holds Tryz.pinned (.plain (OpenSpec.ofChange fnAutomorphismsSpec)) fnAutomorphismsCard

/-- THE SECOND FORM's CARD OF 'laws.FnAutomorphisms'. -/
def fnAutomorphismsUptoCard : Claim7 := { stood := { row := fnAutomorphismsUptoRow, standIns := [], harness := (true, "c3440680f689be28abc597c2a53ce40f429e9f63b772e441f54232a66d6af99c"), looks := true }, kinds := [], alts := [], laidByText := true, laidKinds := [.data, .data, .data, .data, .sentinel, .sentinel, .pinned], laidTests := true, laidLooks := .later }
def FnAutomorphismsUptoCardSaid : Prop := Claim7.holds Tryz.pinned (.plain (OpenSpec.upto fnAutomorphismsSpec)) fnAutomorphismsUptoCard
end Rows
end Go.Proofs.YtifoinannefcpaaGreatDoor
