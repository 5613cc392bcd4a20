/-
  DERIVED. GIVEN WITH THE SEED: THE CARDS: each row of YtnmkncioekdehaaGreatDoorRows.lean that lists a variable, with what it lists TIED to the program's text (the seventh form; the later family's looks); each row that meets fmt, with fmt's text TOLD by the authors' own Lean function (tested against real Go, not proved from fmt's source: count such statements apart). THE CARD IS WHAT COUNTS. Prove the row's statement (the work); the ties are given (YtnmkncioekdehaaGreatDoorTie.lean); close each card by the builder's one call (the guide's Derived/Test/ToyasCard.lean, 'card_holds'). Laid BY PROGRAM, IN A SANDBOX (cutbox-door.mjs). By AI agents, Wed Nov 11 2026. No macro, syntax, notation, axiom, sorry.
-/
import Derived.Test.YtnmkncioekdehaaGreatDoorRows
import GoSem.ClaimSeven
namespace Go.Proofs.YtnmkncioekdehaaGreatDoor
namespace Rows

/-- THE TIED CARD OF 'laws.FnQuiescence'. -/
def fnQuiescenceCard : Claim7 := { stood := { row := fnQuiescenceRow, standIns := [], harness := (true, "eae6637ecc495ec9a6dbd8ba188d244b9315dba019de3c5c90be8a1577959eb2"), looks := true }, kinds := [], alts := [], laidByText := true, laidKinds := [.data, .data, .data, .data, .sentinel, .sentinel, .pinned], laidTests := true, laidLooks := .later }
def FnQuiescenceCardSaid : Prop := Claim7.holds Tryz.pinned (.plain (OpenSpec.ofChange fnQuiescenceSpec)) fnQuiescenceCard

/-- THE SECOND FORM's CARD OF 'laws.FnQuiescence'. -/
def fnQuiescenceUptoCard : Claim7 := { stood := { row := fnQuiescenceUptoRow, standIns := [], harness := (true, "eae6637ecc495ec9a6dbd8ba188d244b9315dba019de3c5c90be8a1577959eb2"), looks := true }, kinds := [], alts := [], laidByText := true, laidKinds := [.data, .data, .data, .data, .sentinel, .sentinel, .pinned], laidTests := true, laidLooks := .later }
def FnQuiescenceUptoCardSaid : Prop := Claim7.holds Tryz.pinned (.plain (OpenSpec.upto fnQuiescenceSpec)) fnQuiescenceUptoCard
end Rows
end Go.Proofs.YtnmkncioekdehaaGreatDoor
