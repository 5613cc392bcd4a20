/-
  DERIVED. GIVEN WITH THE SEED: THE CARDS: each row of YtahpjkockcpcaaaGreatDoorRows.lean that lists a variable, with what it lists TIED to the program's text (the seventh form; the later family's looks); each row that meets fmt, with fmt's text TOLD by the authors' own Lean function (tested against real Go, not proved from fmt's source: count such statements apart). THE CARD IS WHAT COUNTS. Prove the row's statement (the work); the ties are given (YtahpjkockcpcaaaGreatDoorTie.lean); close each card by the builder's one call (the guide's Derived/Test/ToyasCard.lean, 'card_holds'). Laid BY PROGRAM, IN A SANDBOX (cutbox-door.mjs). By AI agents, Wed Nov 11 2026. No macro, syntax, notation, axiom, sorry.
-/
import Derived.Test.YtahpjkockcpcaaaGreatDoorRows
import GoSem.ClaimSeven
namespace Go.Proofs.YtahpjkockcpcaaaGreatDoor
namespace Rows

/-- THE TIED CARD OF 'laws.FnExactEqualTraces'. -/
def fnExactEqualTracesCard : Claim7 := { stood := { row := fnExactEqualTracesRow, standIns := [], harness := (true, "7e02122228796f553f423ea271eb7030539702e6992e50fe13c17858f28f477e"), looks := true }, kinds := [], alts := [], laidByText := true, laidKinds := [.data, .data, .data, .data, .sentinel, .sentinel, .pinned], laidTests := true, laidLooks := .later }
def FnExactEqualTracesCardSaid : Prop := Claim7.holds Tryz.pinned (.plain (OpenSpec.ofChange fnExactEqualTracesSpec)) fnExactEqualTracesCard

/-- THE TIED CARD OF 'laws.FnExactIncludesTraces'. -/
def fnExactIncludesTracesCard : Claim7 := { stood := { row := fnExactIncludesTracesRow, standIns := [], harness := (true, "7e02122228796f553f423ea271eb7030539702e6992e50fe13c17858f28f477e"), looks := true }, kinds := [], alts := [], laidByText := true, laidKinds := [.data, .data, .data, .data, .sentinel, .sentinel, .pinned], laidTests := true, laidLooks := .later }
def FnExactIncludesTracesCardSaid : Prop := Claim7.holds Tryz.pinned (.plain (OpenSpec.ofChange fnExactIncludesTracesSpec)) fnExactIncludesTracesCard

/-- THE TIED CARD OF 'laws.FnExactFirstDivergence'. -/
def fnExactFirstDivergenceCard : Claim7 := { stood := { row := fnExactFirstDivergenceRow, standIns := [], harness := (true, "7e02122228796f553f423ea271eb7030539702e6992e50fe13c17858f28f477e"), looks := true }, kinds := [], alts := [], laidByText := true, laidKinds := [.data, .data, .data, .data, .sentinel, .sentinel, .pinned], laidTests := true, laidLooks := .later }
def FnExactFirstDivergenceCardSaid : Prop := Claim7.holds Tryz.pinned (.plain (OpenSpec.ofChange fnExactFirstDivergenceSpec)) fnExactFirstDivergenceCard

/-- THE TIED CARD OF 'laws.FnExactIsDeterminate'. -/
def fnExactIsDeterminateCard : Claim7 := { stood := { row := fnExactIsDeterminateRow, standIns := [], harness := (true, "7e02122228796f553f423ea271eb7030539702e6992e50fe13c17858f28f477e"), looks := true }, kinds := [], alts := [], laidByText := true, laidKinds := [.data, .data, .data, .data, .sentinel, .sentinel, .pinned], laidTests := true, laidLooks := .later }
def FnExactIsDeterminateCardSaid : Prop := Claim7.holds Tryz.pinned (.plain (OpenSpec.ofChange fnExactIsDeterminateSpec)) fnExactIsDeterminateCard

/-- THE TIED CARD OF 'laws.FnExactEqualFailures'. -/
def fnExactEqualFailuresCard : Claim7 := { stood := { row := fnExactEqualFailuresRow, standIns := [], harness := (true, "7e02122228796f553f423ea271eb7030539702e6992e50fe13c17858f28f477e"), looks := true }, kinds := [], alts := [], laidByText := true, laidKinds := [.data, .data, .data, .data, .sentinel, .sentinel, .pinned], laidTests := true, laidLooks := .later }
def FnExactEqualFailuresCardSaid : Prop := Claim7.holds Tryz.pinned (.plain (OpenSpec.ofChange fnExactEqualFailuresSpec)) fnExactEqualFailuresCard

/-- THE TIED CARD OF 'laws.FnExactRefinesFailures'. -/
def fnExactRefinesFailuresCard : Claim7 := { stood := { row := fnExactRefinesFailuresRow, standIns := [], harness := (true, "7e02122228796f553f423ea271eb7030539702e6992e50fe13c17858f28f477e"), looks := true }, kinds := [], alts := [], laidByText := true, laidKinds := [.data, .data, .data, .data, .sentinel, .sentinel, .pinned], laidTests := true, laidLooks := .later }
def FnExactRefinesFailuresCardSaid : Prop := Claim7.holds Tryz.pinned (.plain (OpenSpec.ofChange fnExactRefinesFailuresSpec)) fnExactRefinesFailuresCard

/-- THE TIED CARD OF 'laws.FnExactMinimalTraces'. -/
def fnExactMinimalTracesCard : Claim7 := { stood := { row := fnExactMinimalTracesRow, standIns := [], harness := (true, "7e02122228796f553f423ea271eb7030539702e6992e50fe13c17858f28f477e"), looks := true }, kinds := [], alts := [], laidByText := true, laidKinds := [.data, .data, .data, .data, .sentinel, .sentinel, .pinned], laidTests := true, laidLooks := .later }
def FnExactMinimalTracesCardSaid : Prop := Claim7.holds Tryz.pinned (.plain (OpenSpec.ofChange fnExactMinimalTracesSpec)) fnExactMinimalTracesCard

/-- THE SECOND FORM's CARD OF 'laws.FnExactEqualTraces'. -/
def fnExactEqualTracesUptoCard : Claim7 := { stood := { row := fnExactEqualTracesUptoRow, standIns := [], harness := (true, "7e02122228796f553f423ea271eb7030539702e6992e50fe13c17858f28f477e"), looks := true }, kinds := [], alts := [], laidByText := true, laidKinds := [.data, .data, .data, .data, .sentinel, .sentinel, .pinned], laidTests := true, laidLooks := .later }
def FnExactEqualTracesUptoCardSaid : Prop := Claim7.holds Tryz.pinned (.plain (OpenSpec.upto fnExactEqualTracesSpec)) fnExactEqualTracesUptoCard

/-- THE SECOND FORM's CARD OF 'laws.FnExactIncludesTraces'. -/
def fnExactIncludesTracesUptoCard : Claim7 := { stood := { row := fnExactIncludesTracesUptoRow, standIns := [], harness := (true, "7e02122228796f553f423ea271eb7030539702e6992e50fe13c17858f28f477e"), looks := true }, kinds := [], alts := [], laidByText := true, laidKinds := [.data, .data, .data, .data, .sentinel, .sentinel, .pinned], laidTests := true, laidLooks := .later }
def FnExactIncludesTracesUptoCardSaid : Prop := Claim7.holds Tryz.pinned (.plain (OpenSpec.upto fnExactIncludesTracesSpec)) fnExactIncludesTracesUptoCard

/-- THE SECOND FORM's CARD OF 'laws.FnExactFirstDivergence'. -/
def fnExactFirstDivergenceUptoCard : Claim7 := { stood := { row := fnExactFirstDivergenceUptoRow, standIns := [], harness := (true, "7e02122228796f553f423ea271eb7030539702e6992e50fe13c17858f28f477e"), looks := true }, kinds := [], alts := [], laidByText := true, laidKinds := [.data, .data, .data, .data, .sentinel, .sentinel, .pinned], laidTests := true, laidLooks := .later }
def FnExactFirstDivergenceUptoCardSaid : Prop := Claim7.holds Tryz.pinned (.plain (OpenSpec.upto fnExactFirstDivergenceSpec)) fnExactFirstDivergenceUptoCard

/-- THE SECOND FORM's CARD OF 'laws.FnExactIsDeterminate'. -/
def fnExactIsDeterminateUptoCard : Claim7 := { stood := { row := fnExactIsDeterminateUptoRow, standIns := [], harness := (true, "7e02122228796f553f423ea271eb7030539702e6992e50fe13c17858f28f477e"), looks := true }, kinds := [], alts := [], laidByText := true, laidKinds := [.data, .data, .data, .data, .sentinel, .sentinel, .pinned], laidTests := true, laidLooks := .later }
def FnExactIsDeterminateUptoCardSaid : Prop := Claim7.holds Tryz.pinned (.plain (OpenSpec.upto fnExactIsDeterminateSpec)) fnExactIsDeterminateUptoCard

/-- THE SECOND FORM's CARD OF 'laws.FnExactEqualFailures'. -/
def fnExactEqualFailuresUptoCard : Claim7 := { stood := { row := fnExactEqualFailuresUptoRow, standIns := [], harness := (true, "7e02122228796f553f423ea271eb7030539702e6992e50fe13c17858f28f477e"), looks := true }, kinds := [], alts := [], laidByText := true, laidKinds := [.data, .data, .data, .data, .sentinel, .sentinel, .pinned], laidTests := true, laidLooks := .later }
def FnExactEqualFailuresUptoCardSaid : Prop := Claim7.holds Tryz.pinned (.plain (OpenSpec.upto fnExactEqualFailuresSpec)) fnExactEqualFailuresUptoCard

/-- THE SECOND FORM's CARD OF 'laws.FnExactRefinesFailures'. -/
def fnExactRefinesFailuresUptoCard : Claim7 := { stood := { row := fnExactRefinesFailuresUptoRow, standIns := [], harness := (true, "7e02122228796f553f423ea271eb7030539702e6992e50fe13c17858f28f477e"), looks := true }, kinds := [], alts := [], laidByText := true, laidKinds := [.data, .data, .data, .data, .sentinel, .sentinel, .pinned], laidTests := true, laidLooks := .later }
def FnExactRefinesFailuresUptoCardSaid : Prop := Claim7.holds Tryz.pinned (.plain (OpenSpec.upto fnExactRefinesFailuresSpec)) fnExactRefinesFailuresUptoCard

/-- THE SECOND FORM's CARD OF 'laws.FnExactMinimalTraces'. -/
def fnExactMinimalTracesUptoCard : Claim7 := { stood := { row := fnExactMinimalTracesUptoRow, standIns := [], harness := (true, "7e02122228796f553f423ea271eb7030539702e6992e50fe13c17858f28f477e"), looks := true }, kinds := [], alts := [], laidByText := true, laidKinds := [.data, .data, .data, .data, .sentinel, .sentinel, .pinned], laidTests := true, laidLooks := .later }
def FnExactMinimalTracesUptoCardSaid : Prop := Claim7.holds Tryz.pinned (.plain (OpenSpec.upto fnExactMinimalTracesSpec)) fnExactMinimalTracesUptoCard
end Rows
end Go.Proofs.YtahpjkockcpcaaaGreatDoor
