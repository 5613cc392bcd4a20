/-
  DERIVED. GIVEN WITH THE SEED: THE CARDS: each row of YtjoacldbgnphkaaGreatDoorRows.lean that lists a variable, with what it lists TIED to the program's text (the seventh form; the later family's looks); each row that meets fmt, with fmt's text TOLD by the authors' own Lean function (tested against real Go, not proved from fmt's source: count such statements apart). THE CARD IS WHAT COUNTS. Prove the row's statement (the work); the ties are given (YtjoacldbgnphkaaGreatDoorTie.lean); close each card by the builder's one call (the guide's Derived/Test/ToyasCard.lean, 'card_holds'). Laid BY PROGRAM, IN A SANDBOX (cutbox-door.mjs). By AI agents, Wed Nov 11 2026. No macro, syntax, notation, axiom, sorry.
-/
import Derived.Test.YtjoacldbgnphkaaGreatDoorRows
import GoSem.ClaimSeven
namespace Go.Proofs.YtjoacldbgnphkaaGreatDoor
namespace Rows

/-- THE TIED CARD OF 'laws.FnExactDistinguishingFormula'. -/
def fnExactDistinguishingFormulaCard : Claim7 := { stood := { row := fnExactDistinguishingFormulaRow, standIns := [], harness := (true, "195f747463bfdd5a25649671e7a2ab4b30a77d22fab58261b257de83c2186b8c"), looks := true }, kinds := [], alts := [], laidByText := true, laidKinds := [.data, .data, .data, .data, .sentinel, .sentinel, .pinned], laidTests := true, laidLooks := .later }
def FnExactDistinguishingFormulaCardSaid : Prop := Claim7.holds Tryz.pinned (.plain (OpenSpec.ofChange fnExactDistinguishingFormulaSpec)) fnExactDistinguishingFormulaCard

/-- THE TIED CARD OF 'laws.FnExactWeakFormula'. -/
def fnExactWeakFormulaCard : Claim7 := { stood := { row := fnExactWeakFormulaRow, standIns := [], harness := (true, "195f747463bfdd5a25649671e7a2ab4b30a77d22fab58261b257de83c2186b8c"), looks := true }, kinds := [], alts := [], laidByText := true, laidKinds := [.data, .data, .data, .data, .sentinel, .sentinel, .pinned], laidTests := true, laidLooks := .later }
def FnExactWeakFormulaCardSaid : Prop := Claim7.holds Tryz.pinned (.plain (OpenSpec.ofChange fnExactWeakFormulaSpec)) fnExactWeakFormulaCard

/-- THE SECOND FORM's CARD OF 'laws.FnExactDistinguishingFormula'. -/
def fnExactDistinguishingFormulaUptoCard : Claim7 := { stood := { row := fnExactDistinguishingFormulaUptoRow, standIns := [], harness := (true, "195f747463bfdd5a25649671e7a2ab4b30a77d22fab58261b257de83c2186b8c"), looks := true }, kinds := [], alts := [], laidByText := true, laidKinds := [.data, .data, .data, .data, .sentinel, .sentinel, .pinned], laidTests := true, laidLooks := .later }
def FnExactDistinguishingFormulaUptoCardSaid : Prop := Claim7.holds Tryz.pinned (.plain (OpenSpec.upto fnExactDistinguishingFormulaSpec)) fnExactDistinguishingFormulaUptoCard

/-- THE SECOND FORM's CARD OF 'laws.FnExactWeakFormula'. -/
def fnExactWeakFormulaUptoCard : Claim7 := { stood := { row := fnExactWeakFormulaUptoRow, standIns := [], harness := (true, "195f747463bfdd5a25649671e7a2ab4b30a77d22fab58261b257de83c2186b8c"), looks := true }, kinds := [], alts := [], laidByText := true, laidKinds := [.data, .data, .data, .data, .sentinel, .sentinel, .pinned], laidTests := true, laidLooks := .later }
def FnExactWeakFormulaUptoCardSaid : Prop := Claim7.holds Tryz.pinned (.plain (OpenSpec.upto fnExactWeakFormulaSpec)) fnExactWeakFormulaUptoCard
end Rows
end Go.Proofs.YtjoacldbgnphkaaGreatDoor
