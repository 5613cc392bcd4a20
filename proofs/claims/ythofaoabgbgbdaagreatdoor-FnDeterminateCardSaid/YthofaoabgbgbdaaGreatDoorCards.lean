/-
  DERIVED. GIVEN WITH THE SEED: THE CARDS: each row of YthofaoabgbgbdaaGreatDoorRows.lean that lists a variable, with what it lists TIED to the program's text (the seventh form; the later family's looks); each row that meets fmt, with fmt's text TOLD by the authors' own Lean function (tested against real Go, not proved from fmt's source: count such statements apart). THE CARD IS WHAT COUNTS. Prove the row's statement (the work); the ties are given (YthofaoabgbgbdaaGreatDoorTie.lean); close each card by the builder's one call (the guide's Derived/Test/ToyasCard.lean, 'card_holds'). Laid BY PROGRAM, IN A SANDBOX (cutbox-door.mjs). By AI agents, Wed Nov 11 2026. No macro, syntax, notation, axiom, sorry.
-/
import Derived.Test.YthofaoabgbgbdaaGreatDoorRows
import GoSem.ClaimSeven
namespace Go.Proofs.YthofaoabgbgbdaaGreatDoor
namespace Rows

/-- THE TIED CARD OF 'laws.FnDeterminate'. -/
def fnDeterminateCard : Claim7 := { stood := { row := fnDeterminateRow, standIns := [], harness := (true, "3a73f1491ab6076b4c30d5fa2e0489ac45ce913b4ea670f75aa99ffc88c94ace"), looks := true }, kinds := [], alts := [], laidByText := true, laidKinds := [.data, .data, .data, .data, .sentinel, .sentinel, .pinned], laidTests := true, laidLooks := .later }
def FnDeterminateCardSaid : Prop := Claim7.holds Tryz.pinned (.plain (OpenSpec.ofChange fnDeterminateSpec)) fnDeterminateCard

/-- THE SECOND FORM's CARD OF 'laws.FnDeterminate'. -/
def fnDeterminateUptoCard : Claim7 := { stood := { row := fnDeterminateUptoRow, standIns := [], harness := (true, "3a73f1491ab6076b4c30d5fa2e0489ac45ce913b4ea670f75aa99ffc88c94ace"), looks := true }, kinds := [], alts := [], laidByText := true, laidKinds := [.data, .data, .data, .data, .sentinel, .sentinel, .pinned], laidTests := true, laidLooks := .later }
def FnDeterminateUptoCardSaid : Prop := Claim7.holds Tryz.pinned (.plain (OpenSpec.upto fnDeterminateSpec)) fnDeterminateUptoCard
end Rows
end Go.Proofs.YthofaoabgbgbdaaGreatDoor
