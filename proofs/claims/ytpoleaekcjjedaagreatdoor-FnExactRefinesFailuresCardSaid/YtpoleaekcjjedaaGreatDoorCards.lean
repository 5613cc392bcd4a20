/-
  DERIVED. GIVEN WITH THE SEED: THE CARDS: each row of YtpoleaekcjjedaaGreatDoorRows.lean that lists a variable, with what it lists TIED to the program's text (the seventh form; the later family's looks); each row that meets fmt, with fmt's text TOLD by the authors' own Lean function (tested against real Go, not proved from fmt's source: count such statements apart). THE CARD IS WHAT COUNTS. Prove the row's statement (the work); the ties are given (YtpoleaekcjjedaaGreatDoorTie.lean); close each card by the builder's one call (the guide's Derived/Test/ToyasCard.lean, 'card_holds'). Laid BY PROGRAM, IN A SANDBOX (cutbox-door.mjs). By AI agents, Wed Nov 11 2026. No macro, syntax, notation, axiom, sorry.
-/
import Derived.Test.YtpoleaekcjjedaaGreatDoorRows
import GoSem.ClaimSeven
namespace Go.Proofs.YtpoleaekcjjedaaGreatDoor
namespace Rows

/-- THE TIED CARD OF 'laws.FnExactIncludesTraces'. -/
def fnExactIncludesTracesCard : Claim7 := { stood := { row := fnExactIncludesTracesRow, standIns := [], harness := (true, "63d2855be5404cac803a3db5251313e8c0e56777ef8914fcff43adb78571a669"), looks := true }, kinds := [], alts := [], laidByText := true, laidKinds := [.data, .data, .data, .data, .sentinel, .sentinel, .pinned], laidTests := true, laidLooks := .later }
def FnExactIncludesTracesCardSaid : Prop := Claim7.holds Tryz.pinned (.plain (OpenSpec.ofChange fnExactIncludesTracesSpec)) fnExactIncludesTracesCard

/-- THE TIED CARD OF 'laws.FnExactFirstDivergence'. -/
def fnExactFirstDivergenceCard : Claim7 := { stood := { row := fnExactFirstDivergenceRow, standIns := [], harness := (true, "63d2855be5404cac803a3db5251313e8c0e56777ef8914fcff43adb78571a669"), looks := true }, kinds := [], alts := [], laidByText := true, laidKinds := [.data, .data, .data, .data, .sentinel, .sentinel, .pinned], laidTests := true, laidLooks := .later }
def FnExactFirstDivergenceCardSaid : Prop := Claim7.holds Tryz.pinned (.plain (OpenSpec.ofChange fnExactFirstDivergenceSpec)) fnExactFirstDivergenceCard

/-- THE TIED CARD OF 'laws.FnExactIsDeterminate'. -/
def fnExactIsDeterminateCard : Claim7 := { stood := { row := fnExactIsDeterminateRow, standIns := [], harness := (true, "63d2855be5404cac803a3db5251313e8c0e56777ef8914fcff43adb78571a669"), looks := true }, kinds := [], alts := [], laidByText := true, laidKinds := [.data, .data, .data, .data, .sentinel, .sentinel, .pinned], laidTests := true, laidLooks := .later }
def FnExactIsDeterminateCardSaid : Prop := Claim7.holds Tryz.pinned (.plain (OpenSpec.ofChange fnExactIsDeterminateSpec)) fnExactIsDeterminateCard

/-- THE TIED CARD OF 'laws.FnExactEqualFailures'. -/
def fnExactEqualFailuresCard : Claim7 := { stood := { row := fnExactEqualFailuresRow, standIns := [], harness := (true, "63d2855be5404cac803a3db5251313e8c0e56777ef8914fcff43adb78571a669"), looks := true }, kinds := [], alts := [], laidByText := true, laidKinds := [.data, .data, .data, .data, .sentinel, .sentinel, .pinned], laidTests := true, laidLooks := .later }
def FnExactEqualFailuresCardSaid : Prop := Claim7.holds Tryz.pinned (.plain (OpenSpec.ofChange fnExactEqualFailuresSpec)) fnExactEqualFailuresCard

/-- THE TIED CARD OF 'laws.FnExactRefinesFailures'. -/
def fnExactRefinesFailuresCard : Claim7 := { stood := { row := fnExactRefinesFailuresRow, standIns := [], harness := (true, "63d2855be5404cac803a3db5251313e8c0e56777ef8914fcff43adb78571a669"), looks := true }, kinds := [], alts := [], laidByText := true, laidKinds := [.data, .data, .data, .data, .sentinel, .sentinel, .pinned], laidTests := true, laidLooks := .later }
def FnExactRefinesFailuresCardSaid : Prop := Claim7.holds Tryz.pinned (.plain (OpenSpec.ofChange fnExactRefinesFailuresSpec)) fnExactRefinesFailuresCard

/-- THE TIED CARD OF 'laws.FnExactMinimalTraces'. -/
def fnExactMinimalTracesCard : Claim7 := { stood := { row := fnExactMinimalTracesRow, standIns := [], harness := (true, "63d2855be5404cac803a3db5251313e8c0e56777ef8914fcff43adb78571a669"), looks := true }, kinds := [], alts := [], laidByText := true, laidKinds := [.data, .data, .data, .data, .sentinel, .sentinel, .pinned], laidTests := true, laidLooks := .later }
def FnExactMinimalTracesCardSaid : Prop := Claim7.holds Tryz.pinned (.plain (OpenSpec.ofChange fnExactMinimalTracesSpec)) fnExactMinimalTracesCard

/-- THE TIED CARD OF 'laws.FnExactNormalForm'. -/
def fnExactNormalFormCard : Claim7 := { stood := { row := fnExactNormalFormRow, standIns := [], harness := (true, "63d2855be5404cac803a3db5251313e8c0e56777ef8914fcff43adb78571a669"), looks := true }, kinds := [], alts := [], laidByText := true, laidKinds := [.data, .data, .data, .data, .sentinel, .sentinel, .pinned], laidTests := true, laidLooks := .later }
def FnExactNormalFormCardSaid : Prop := Claim7.holds Tryz.pinned (.plain (OpenSpec.ofChange fnExactNormalFormSpec)) fnExactNormalFormCard

/-- THE TIED CARD OF 'laws.FnExactSimulationOf'. -/
def fnExactSimulationOfCard : Claim7 := { stood := { row := fnExactSimulationOfRow, standIns := [], harness := (true, "63d2855be5404cac803a3db5251313e8c0e56777ef8914fcff43adb78571a669"), looks := true }, kinds := [], alts := [], laidByText := true, laidKinds := [.data, .data, .data, .data, .sentinel, .sentinel, .pinned], laidTests := true, laidLooks := .later }
def FnExactSimulationOfCardSaid : Prop := Claim7.holds Tryz.pinned (.plain (OpenSpec.ofChange fnExactSimulationOfSpec)) fnExactSimulationOfCard

/-- THE TIED CARD OF 'laws.FnExactPruneBrothers'. -/
def fnExactPruneBrothersCard : Claim7 := { stood := { row := fnExactPruneBrothersRow, standIns := [], harness := (true, "63d2855be5404cac803a3db5251313e8c0e56777ef8914fcff43adb78571a669"), looks := true }, kinds := [], alts := [], laidByText := true, laidKinds := [.data, .data, .data, .data, .sentinel, .sentinel, .pinned], laidTests := true, laidLooks := .later }
def FnExactPruneBrothersCardSaid : Prop := Claim7.holds Tryz.pinned (.plain (OpenSpec.ofChange fnExactPruneBrothersSpec)) fnExactPruneBrothersCard

/-- THE TIED CARD OF 'laws.FnExactSuspensionAutomaton'. -/
def fnExactSuspensionAutomatonCard : Claim7 := { stood := { row := fnExactSuspensionAutomatonRow, standIns := [], harness := (true, "63d2855be5404cac803a3db5251313e8c0e56777ef8914fcff43adb78571a669"), looks := true }, kinds := [], alts := [], laidByText := true, laidKinds := [.data, .data, .data, .data, .sentinel, .sentinel, .pinned], laidTests := true, laidLooks := .later }
def FnExactSuspensionAutomatonCardSaid : Prop := Claim7.holds Tryz.pinned (.plain (OpenSpec.ofChange fnExactSuspensionAutomatonSpec)) fnExactSuspensionAutomatonCard

/-- THE TIED CARD OF 'laws.FnExactConforms'. -/
def fnExactConformsCard : Claim7 := { stood := { row := fnExactConformsRow, standIns := [], harness := (true, "63d2855be5404cac803a3db5251313e8c0e56777ef8914fcff43adb78571a669"), looks := true }, kinds := [], alts := [], laidByText := true, laidKinds := [.data, .data, .data, .data, .sentinel, .sentinel, .pinned], laidTests := true, laidLooks := .later }
def FnExactConformsCardSaid : Prop := Claim7.holds Tryz.pinned (.plain (OpenSpec.ofChange fnExactConformsSpec)) fnExactConformsCard

/-- THE SECOND FORM's CARD OF 'laws.FnExactIncludesTraces'. -/
def fnExactIncludesTracesUptoCard : Claim7 := { stood := { row := fnExactIncludesTracesUptoRow, standIns := [], harness := (true, "63d2855be5404cac803a3db5251313e8c0e56777ef8914fcff43adb78571a669"), looks := true }, kinds := [], alts := [], laidByText := true, laidKinds := [.data, .data, .data, .data, .sentinel, .sentinel, .pinned], laidTests := true, laidLooks := .later }
def FnExactIncludesTracesUptoCardSaid : Prop := Claim7.holds Tryz.pinned (.plain (OpenSpec.upto fnExactIncludesTracesSpec)) fnExactIncludesTracesUptoCard

/-- THE SECOND FORM's CARD OF 'laws.FnExactFirstDivergence'. -/
def fnExactFirstDivergenceUptoCard : Claim7 := { stood := { row := fnExactFirstDivergenceUptoRow, standIns := [], harness := (true, "63d2855be5404cac803a3db5251313e8c0e56777ef8914fcff43adb78571a669"), looks := true }, kinds := [], alts := [], laidByText := true, laidKinds := [.data, .data, .data, .data, .sentinel, .sentinel, .pinned], laidTests := true, laidLooks := .later }
def FnExactFirstDivergenceUptoCardSaid : Prop := Claim7.holds Tryz.pinned (.plain (OpenSpec.upto fnExactFirstDivergenceSpec)) fnExactFirstDivergenceUptoCard

/-- THE SECOND FORM's CARD OF 'laws.FnExactIsDeterminate'. -/
def fnExactIsDeterminateUptoCard : Claim7 := { stood := { row := fnExactIsDeterminateUptoRow, standIns := [], harness := (true, "63d2855be5404cac803a3db5251313e8c0e56777ef8914fcff43adb78571a669"), looks := true }, kinds := [], alts := [], laidByText := true, laidKinds := [.data, .data, .data, .data, .sentinel, .sentinel, .pinned], laidTests := true, laidLooks := .later }
def FnExactIsDeterminateUptoCardSaid : Prop := Claim7.holds Tryz.pinned (.plain (OpenSpec.upto fnExactIsDeterminateSpec)) fnExactIsDeterminateUptoCard

/-- THE SECOND FORM's CARD OF 'laws.FnExactEqualFailures'. -/
def fnExactEqualFailuresUptoCard : Claim7 := { stood := { row := fnExactEqualFailuresUptoRow, standIns := [], harness := (true, "63d2855be5404cac803a3db5251313e8c0e56777ef8914fcff43adb78571a669"), looks := true }, kinds := [], alts := [], laidByText := true, laidKinds := [.data, .data, .data, .data, .sentinel, .sentinel, .pinned], laidTests := true, laidLooks := .later }
def FnExactEqualFailuresUptoCardSaid : Prop := Claim7.holds Tryz.pinned (.plain (OpenSpec.upto fnExactEqualFailuresSpec)) fnExactEqualFailuresUptoCard

/-- THE SECOND FORM's CARD OF 'laws.FnExactRefinesFailures'. -/
def fnExactRefinesFailuresUptoCard : Claim7 := { stood := { row := fnExactRefinesFailuresUptoRow, standIns := [], harness := (true, "63d2855be5404cac803a3db5251313e8c0e56777ef8914fcff43adb78571a669"), looks := true }, kinds := [], alts := [], laidByText := true, laidKinds := [.data, .data, .data, .data, .sentinel, .sentinel, .pinned], laidTests := true, laidLooks := .later }
def FnExactRefinesFailuresUptoCardSaid : Prop := Claim7.holds Tryz.pinned (.plain (OpenSpec.upto fnExactRefinesFailuresSpec)) fnExactRefinesFailuresUptoCard

/-- THE SECOND FORM's CARD OF 'laws.FnExactMinimalTraces'. -/
def fnExactMinimalTracesUptoCard : Claim7 := { stood := { row := fnExactMinimalTracesUptoRow, standIns := [], harness := (true, "63d2855be5404cac803a3db5251313e8c0e56777ef8914fcff43adb78571a669"), looks := true }, kinds := [], alts := [], laidByText := true, laidKinds := [.data, .data, .data, .data, .sentinel, .sentinel, .pinned], laidTests := true, laidLooks := .later }
def FnExactMinimalTracesUptoCardSaid : Prop := Claim7.holds Tryz.pinned (.plain (OpenSpec.upto fnExactMinimalTracesSpec)) fnExactMinimalTracesUptoCard

/-- THE SECOND FORM's CARD OF 'laws.FnExactNormalForm'. -/
def fnExactNormalFormUptoCard : Claim7 := { stood := { row := fnExactNormalFormUptoRow, standIns := [], harness := (true, "63d2855be5404cac803a3db5251313e8c0e56777ef8914fcff43adb78571a669"), looks := true }, kinds := [], alts := [], laidByText := true, laidKinds := [.data, .data, .data, .data, .sentinel, .sentinel, .pinned], laidTests := true, laidLooks := .later }
def FnExactNormalFormUptoCardSaid : Prop := Claim7.holds Tryz.pinned (.plain (OpenSpec.upto fnExactNormalFormSpec)) fnExactNormalFormUptoCard

/-- THE SECOND FORM's CARD OF 'laws.FnExactSimulationOf'. -/
def fnExactSimulationOfUptoCard : Claim7 := { stood := { row := fnExactSimulationOfUptoRow, standIns := [], harness := (true, "63d2855be5404cac803a3db5251313e8c0e56777ef8914fcff43adb78571a669"), looks := true }, kinds := [], alts := [], laidByText := true, laidKinds := [.data, .data, .data, .data, .sentinel, .sentinel, .pinned], laidTests := true, laidLooks := .later }
def FnExactSimulationOfUptoCardSaid : Prop := Claim7.holds Tryz.pinned (.plain (OpenSpec.upto fnExactSimulationOfSpec)) fnExactSimulationOfUptoCard

/-- THE SECOND FORM's CARD OF 'laws.FnExactPruneBrothers'. -/
def fnExactPruneBrothersUptoCard : Claim7 := { stood := { row := fnExactPruneBrothersUptoRow, standIns := [], harness := (true, "63d2855be5404cac803a3db5251313e8c0e56777ef8914fcff43adb78571a669"), looks := true }, kinds := [], alts := [], laidByText := true, laidKinds := [.data, .data, .data, .data, .sentinel, .sentinel, .pinned], laidTests := true, laidLooks := .later }
def FnExactPruneBrothersUptoCardSaid : Prop := Claim7.holds Tryz.pinned (.plain (OpenSpec.upto fnExactPruneBrothersSpec)) fnExactPruneBrothersUptoCard

/-- THE SECOND FORM's CARD OF 'laws.FnExactSuspensionAutomaton'. -/
def fnExactSuspensionAutomatonUptoCard : Claim7 := { stood := { row := fnExactSuspensionAutomatonUptoRow, standIns := [], harness := (true, "63d2855be5404cac803a3db5251313e8c0e56777ef8914fcff43adb78571a669"), looks := true }, kinds := [], alts := [], laidByText := true, laidKinds := [.data, .data, .data, .data, .sentinel, .sentinel, .pinned], laidTests := true, laidLooks := .later }
def FnExactSuspensionAutomatonUptoCardSaid : Prop := Claim7.holds Tryz.pinned (.plain (OpenSpec.upto fnExactSuspensionAutomatonSpec)) fnExactSuspensionAutomatonUptoCard

/-- THE SECOND FORM's CARD OF 'laws.FnExactConforms'. -/
def fnExactConformsUptoCard : Claim7 := { stood := { row := fnExactConformsUptoRow, standIns := [], harness := (true, "63d2855be5404cac803a3db5251313e8c0e56777ef8914fcff43adb78571a669"), looks := true }, kinds := [], alts := [], laidByText := true, laidKinds := [.data, .data, .data, .data, .sentinel, .sentinel, .pinned], laidTests := true, laidLooks := .later }
def FnExactConformsUptoCardSaid : Prop := Claim7.holds Tryz.pinned (.plain (OpenSpec.upto fnExactConformsSpec)) fnExactConformsUptoCard
end Rows
end Go.Proofs.YtpoleaekcjjedaaGreatDoor
