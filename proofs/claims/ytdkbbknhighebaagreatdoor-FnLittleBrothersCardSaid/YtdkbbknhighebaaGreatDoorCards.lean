/-
  DERIVED. GIVEN WITH THE SEED: THE CARDS: each row of YtdkbbknhighebaaGreatDoorRows.lean that lists a variable, with what it lists TIED to the program's text (the seventh form; the later family's looks); each row that meets fmt, with fmt's text TOLD by the authors' own Lean function (tested against real Go, not proved from fmt's source: count such statements apart). THE CARD IS WHAT COUNTS. Prove the row's statement (the work); the ties are given (YtdkbbknhighebaaGreatDoorTie.lean); close each card by the builder's one call (the guide's Derived/Test/ToyasCard.lean, 'card_holds'). Laid BY PROGRAM, IN A SANDBOX (cutbox-door.mjs). By AI agents, Wed Nov 11 2026. No macro, syntax, notation, axiom, sorry.
-/
import Derived.Test.YtdkbbknhighebaaGreatDoorRows
import GoSem.ClaimSeven
namespace Go.Proofs.YtdkbbknhighebaaGreatDoor
namespace Rows

/-- THE TIED CARD OF 'laws.FnLittleBrothers'. -/
def fnLittleBrothersCard : Claim7 := { stood := { row := fnLittleBrothersRow, standIns := [], harness := (true, "ccb79812e37a67ca399c8876bed05b8a0b2a0f16c0ec71263753ae948cf14c72"), looks := true }, kinds := [], alts := [], laidByText := true, laidKinds := [.data, .data, .data, .data, .sentinel, .sentinel, .pinned], laidTests := true, laidLooks := .later }
def FnLittleBrothersCardSaid : Prop := Claim7.holds Tryz.pinned (.plain (OpenSpec.ofChange fnLittleBrothersSpec)) fnLittleBrothersCard

/-- THE SECOND FORM's CARD OF 'laws.FnLittleBrothers'. -/
def fnLittleBrothersUptoCard : Claim7 := { stood := { row := fnLittleBrothersUptoRow, standIns := [], harness := (true, "ccb79812e37a67ca399c8876bed05b8a0b2a0f16c0ec71263753ae948cf14c72"), looks := true }, kinds := [], alts := [], laidByText := true, laidKinds := [.data, .data, .data, .data, .sentinel, .sentinel, .pinned], laidTests := true, laidLooks := .later }
def FnLittleBrothersUptoCardSaid : Prop := Claim7.holds Tryz.pinned (.plain (OpenSpec.upto fnLittleBrothersSpec)) fnLittleBrothersUptoCard
end Rows
end Go.Proofs.YtdkbbknhighebaaGreatDoor
