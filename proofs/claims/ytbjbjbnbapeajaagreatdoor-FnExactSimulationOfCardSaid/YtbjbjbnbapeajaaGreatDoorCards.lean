/-
  DERIVED. GIVEN WITH THE SEED: THE CARDS: each row of YtbjbjbnbapeajaaGreatDoorRows.lean that lists a variable, with what it lists TIED to the program's text (the seventh form; the later family's looks); each row that meets fmt, with fmt's text TOLD by the authors' own Lean function (tested against real Go, not proved from fmt's source: count such statements apart). THE CARD IS WHAT COUNTS. Prove the row's statement (the work); the ties are given (YtbjbjbnbapeajaaGreatDoorTie.lean); close each card by the builder's one call (the guide's Derived/Test/ToyasCard.lean, 'card_holds'). Laid BY PROGRAM, IN A SANDBOX (cutbox-door.mjs). By AI agents, Wed Nov 11 2026. No macro, syntax, notation, axiom, sorry.
-/
import Derived.Test.YtbjbjbnbapeajaaGreatDoorRows
import GoSem.ClaimSeven
namespace Go.Proofs.YtbjbjbnbapeajaaGreatDoor
namespace Rows

/-- THE TIED CARD OF 'laws.FnExactPruneBrothers'. -/
def fnExactPruneBrothersCard : Claim7 := { stood := { row := fnExactPruneBrothersRow, standIns := [], harness := (true, "a646e8e3e31b88a33803354e0a55b8179f60c521df00dacfde6c502a1aeb4f81"), looks := true }, kinds := [], alts := [], laidByText := true, laidKinds := [.data, .data, .data, .data, .sentinel, .sentinel, .pinned], laidTests := true, laidLooks := .later }
def FnExactPruneBrothersCardSaid : Prop := Claim7.holds Tryz.pinned (.plain (OpenSpec.ofChange fnExactPruneBrothersSpec)) fnExactPruneBrothersCard

/-- THE TIED CARD OF 'laws.FnExactSimulationOf'. -/
def fnExactSimulationOfCard : Claim7 := { stood := { row := fnExactSimulationOfRow, standIns := [], harness := (true, "a646e8e3e31b88a33803354e0a55b8179f60c521df00dacfde6c502a1aeb4f81"), looks := true }, kinds := [], alts := [], laidByText := true, laidKinds := [.data, .data, .data, .data, .sentinel, .sentinel, .pinned], laidTests := true, laidLooks := .later }
def FnExactSimulationOfCardSaid : Prop := Claim7.holds Tryz.pinned (.plain (OpenSpec.ofChange fnExactSimulationOfSpec)) fnExactSimulationOfCard

/-- THE SECOND FORM's CARD OF 'laws.FnExactPruneBrothers'. -/
def fnExactPruneBrothersUptoCard : Claim7 := { stood := { row := fnExactPruneBrothersUptoRow, standIns := [], harness := (true, "a646e8e3e31b88a33803354e0a55b8179f60c521df00dacfde6c502a1aeb4f81"), looks := true }, kinds := [], alts := [], laidByText := true, laidKinds := [.data, .data, .data, .data, .sentinel, .sentinel, .pinned], laidTests := true, laidLooks := .later }
def FnExactPruneBrothersUptoCardSaid : Prop := Claim7.holds Tryz.pinned (.plain (OpenSpec.upto fnExactPruneBrothersSpec)) fnExactPruneBrothersUptoCard

/-- THE SECOND FORM's CARD OF 'laws.FnExactSimulationOf'. -/
def fnExactSimulationOfUptoCard : Claim7 := { stood := { row := fnExactSimulationOfUptoRow, standIns := [], harness := (true, "a646e8e3e31b88a33803354e0a55b8179f60c521df00dacfde6c502a1aeb4f81"), looks := true }, kinds := [], alts := [], laidByText := true, laidKinds := [.data, .data, .data, .data, .sentinel, .sentinel, .pinned], laidTests := true, laidLooks := .later }
def FnExactSimulationOfUptoCardSaid : Prop := Claim7.holds Tryz.pinned (.plain (OpenSpec.upto fnExactSimulationOfSpec)) fnExactSimulationOfUptoCard
end Rows
end Go.Proofs.YtbjbjbnbapeajaaGreatDoor
