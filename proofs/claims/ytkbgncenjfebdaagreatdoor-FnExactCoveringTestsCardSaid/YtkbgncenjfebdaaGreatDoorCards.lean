/-
  DERIVED. GIVEN WITH THE SEED: THE CARDS: each row of YtkbgncenjfebdaaGreatDoorRows.lean that lists a variable, with what it lists TIED to the program's text (the seventh form; the later family's looks); each row that meets fmt, with fmt's text TOLD by the authors' own Lean function (tested against real Go, not proved from fmt's source: count such statements apart). THE CARD IS WHAT COUNTS. Prove the row's statement (the work); the ties are given (YtkbgncenjfebdaaGreatDoorTie.lean); close each card by the builder's one call (the guide's Derived/Test/ToyasCard.lean, 'card_holds'). Laid BY PROGRAM, IN A SANDBOX (cutbox-door.mjs). By AI agents, Wed Nov 11 2026. No macro, syntax, notation, axiom, sorry.
-/
import Derived.Test.YtkbgncenjfebdaaGreatDoorRows
import GoSem.ClaimSeven
namespace Go.Proofs.YtkbgncenjfebdaaGreatDoor
namespace Rows

/-- THE TIED CARD OF 'laws.FnExactSuspensionAutomaton'. -/
def fnExactSuspensionAutomatonCard : Claim7 := { stood := { row := fnExactSuspensionAutomatonRow, standIns := [], harness := (true, "8cfaf35d758fd1dc9fff0744b65a411860365d21b4b4f909ffa5189553668f2f"), looks := true }, kinds := [], alts := [], laidByText := true, laidKinds := [.data, .data, .data, .data, .sentinel, .sentinel, .pinned], laidTests := true, laidLooks := .later }
def FnExactSuspensionAutomatonCardSaid : Prop := Claim7.holds Tryz.pinned (.plain (OpenSpec.ofChange fnExactSuspensionAutomatonSpec)) fnExactSuspensionAutomatonCard

/-- THE TIED CARD OF 'laws.FnExactTestsOf'. -/
def fnExactTestsOfCard : Claim7 := { stood := { row := fnExactTestsOfRow, standIns := [], harness := (true, "8cfaf35d758fd1dc9fff0744b65a411860365d21b4b4f909ffa5189553668f2f"), looks := true }, kinds := [], alts := [], laidByText := true, laidKinds := [.data, .data, .data, .data, .sentinel, .sentinel, .pinned], laidTests := true, laidLooks := .later }
def FnExactTestsOfCardSaid : Prop := Claim7.holds Tryz.pinned (.plain (OpenSpec.ofChange fnExactTestsOfSpec)) fnExactTestsOfCard

/-- THE TIED CARD OF 'laws.FnExactConforms'. -/
def fnExactConformsCard : Claim7 := { stood := { row := fnExactConformsRow, standIns := [], harness := (true, "8cfaf35d758fd1dc9fff0744b65a411860365d21b4b4f909ffa5189553668f2f"), looks := true }, kinds := [], alts := [], laidByText := true, laidKinds := [.data, .data, .data, .data, .sentinel, .sentinel, .pinned], laidTests := true, laidLooks := .later }
def FnExactConformsCardSaid : Prop := Claim7.holds Tryz.pinned (.plain (OpenSpec.ofChange fnExactConformsSpec)) fnExactConformsCard

/-- THE TIED CARD OF 'laws.FnExactCoveringTests'. -/
def fnExactCoveringTestsCard : Claim7 := { stood := { row := fnExactCoveringTestsRow, standIns := [], harness := (true, "8cfaf35d758fd1dc9fff0744b65a411860365d21b4b4f909ffa5189553668f2f"), looks := true }, kinds := [], alts := [], laidByText := true, laidKinds := [.data, .data, .data, .data, .sentinel, .sentinel, .pinned], laidTests := true, laidLooks := .later }
def FnExactCoveringTestsCardSaid : Prop := Claim7.holds Tryz.pinned (.plain (OpenSpec.ofChange fnExactCoveringTestsSpec)) fnExactCoveringTestsCard

/-- THE TIED CARD OF 'laws.FnQuiescence'. -/
def fnQuiescenceCard : Claim7 := { stood := { row := fnQuiescenceRow, standIns := [], harness := (true, "8cfaf35d758fd1dc9fff0744b65a411860365d21b4b4f909ffa5189553668f2f"), looks := true }, kinds := [], alts := [], laidByText := true, laidKinds := [.data, .data, .data, .data, .sentinel, .sentinel, .pinned], laidTests := true, laidLooks := .later }
def FnQuiescenceCardSaid : Prop := Claim7.holds Tryz.pinned (.plain (OpenSpec.ofChange fnQuiescenceSpec)) fnQuiescenceCard

/-- THE TIED CARD OF 'laws.FnExactMinimalTraces'. -/
def fnExactMinimalTracesCard : Claim7 := { stood := { row := fnExactMinimalTracesRow, standIns := [], harness := (true, "8cfaf35d758fd1dc9fff0744b65a411860365d21b4b4f909ffa5189553668f2f"), looks := true }, kinds := [], alts := [], laidByText := true, laidKinds := [.data, .data, .data, .data, .sentinel, .sentinel, .pinned], laidTests := true, laidLooks := .later }
def FnExactMinimalTracesCardSaid : Prop := Claim7.holds Tryz.pinned (.plain (OpenSpec.ofChange fnExactMinimalTracesSpec)) fnExactMinimalTracesCard

/-- THE SECOND FORM's CARD OF 'laws.FnExactSuspensionAutomaton'. -/
def fnExactSuspensionAutomatonUptoCard : Claim7 := { stood := { row := fnExactSuspensionAutomatonUptoRow, standIns := [], harness := (true, "8cfaf35d758fd1dc9fff0744b65a411860365d21b4b4f909ffa5189553668f2f"), looks := true }, kinds := [], alts := [], laidByText := true, laidKinds := [.data, .data, .data, .data, .sentinel, .sentinel, .pinned], laidTests := true, laidLooks := .later }
def FnExactSuspensionAutomatonUptoCardSaid : Prop := Claim7.holds Tryz.pinned (.plain (OpenSpec.upto fnExactSuspensionAutomatonSpec)) fnExactSuspensionAutomatonUptoCard

/-- THE SECOND FORM's CARD OF 'laws.FnExactTestsOf'. -/
def fnExactTestsOfUptoCard : Claim7 := { stood := { row := fnExactTestsOfUptoRow, standIns := [], harness := (true, "8cfaf35d758fd1dc9fff0744b65a411860365d21b4b4f909ffa5189553668f2f"), looks := true }, kinds := [], alts := [], laidByText := true, laidKinds := [.data, .data, .data, .data, .sentinel, .sentinel, .pinned], laidTests := true, laidLooks := .later }
def FnExactTestsOfUptoCardSaid : Prop := Claim7.holds Tryz.pinned (.plain (OpenSpec.upto fnExactTestsOfSpec)) fnExactTestsOfUptoCard

/-- THE SECOND FORM's CARD OF 'laws.FnExactConforms'. -/
def fnExactConformsUptoCard : Claim7 := { stood := { row := fnExactConformsUptoRow, standIns := [], harness := (true, "8cfaf35d758fd1dc9fff0744b65a411860365d21b4b4f909ffa5189553668f2f"), looks := true }, kinds := [], alts := [], laidByText := true, laidKinds := [.data, .data, .data, .data, .sentinel, .sentinel, .pinned], laidTests := true, laidLooks := .later }
def FnExactConformsUptoCardSaid : Prop := Claim7.holds Tryz.pinned (.plain (OpenSpec.upto fnExactConformsSpec)) fnExactConformsUptoCard

/-- THE SECOND FORM's CARD OF 'laws.FnExactCoveringTests'. -/
def fnExactCoveringTestsUptoCard : Claim7 := { stood := { row := fnExactCoveringTestsUptoRow, standIns := [], harness := (true, "8cfaf35d758fd1dc9fff0744b65a411860365d21b4b4f909ffa5189553668f2f"), looks := true }, kinds := [], alts := [], laidByText := true, laidKinds := [.data, .data, .data, .data, .sentinel, .sentinel, .pinned], laidTests := true, laidLooks := .later }
def FnExactCoveringTestsUptoCardSaid : Prop := Claim7.holds Tryz.pinned (.plain (OpenSpec.upto fnExactCoveringTestsSpec)) fnExactCoveringTestsUptoCard

/-- THE SECOND FORM's CARD OF 'laws.FnQuiescence'. -/
def fnQuiescenceUptoCard : Claim7 := { stood := { row := fnQuiescenceUptoRow, standIns := [], harness := (true, "8cfaf35d758fd1dc9fff0744b65a411860365d21b4b4f909ffa5189553668f2f"), looks := true }, kinds := [], alts := [], laidByText := true, laidKinds := [.data, .data, .data, .data, .sentinel, .sentinel, .pinned], laidTests := true, laidLooks := .later }
def FnQuiescenceUptoCardSaid : Prop := Claim7.holds Tryz.pinned (.plain (OpenSpec.upto fnQuiescenceSpec)) fnQuiescenceUptoCard

/-- THE SECOND FORM's CARD OF 'laws.FnExactMinimalTraces'. -/
def fnExactMinimalTracesUptoCard : Claim7 := { stood := { row := fnExactMinimalTracesUptoRow, standIns := [], harness := (true, "8cfaf35d758fd1dc9fff0744b65a411860365d21b4b4f909ffa5189553668f2f"), looks := true }, kinds := [], alts := [], laidByText := true, laidKinds := [.data, .data, .data, .data, .sentinel, .sentinel, .pinned], laidTests := true, laidLooks := .later }
def FnExactMinimalTracesUptoCardSaid : Prop := Claim7.holds Tryz.pinned (.plain (OpenSpec.upto fnExactMinimalTracesSpec)) fnExactMinimalTracesUptoCard
end Rows
end Go.Proofs.YtkbgncenjfebdaaGreatDoor
