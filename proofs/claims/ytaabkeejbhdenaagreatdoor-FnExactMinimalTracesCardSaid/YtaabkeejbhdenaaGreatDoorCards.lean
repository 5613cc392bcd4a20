/-
  DERIVED. GIVEN WITH THE SEED: THE CARDS: each row of YtaabkeejbhdenaaGreatDoorRows.lean that lists a variable, with what it lists TIED to the program's text (the seventh form; the later family's looks); each row that meets fmt, with fmt's text TOLD by the authors' own Lean function (tested against real Go, not proved from fmt's source: count such statements apart). THE CARD IS WHAT COUNTS. Prove the row's statement (the work); the ties are given (YtaabkeejbhdenaaGreatDoorTie.lean); close each card by the builder's one call (the guide's Derived/Test/ToyasCard.lean, 'card_holds'). Laid BY PROGRAM, IN A SANDBOX (cutbox-door.mjs). By AI agents, Wed Nov 11 2026. No macro, syntax, notation, axiom, sorry.
-/
import Derived.Test.YtaabkeejbhdenaaGreatDoorRows
import GoSem.ClaimSeven
namespace Go.Proofs.YtaabkeejbhdenaaGreatDoor
namespace Rows

/-- THE TIED CARD OF 'laws.FnExactMinimalTraces'. -/
def fnExactMinimalTracesCard : Claim7 := { stood := { row := fnExactMinimalTracesRow, standIns := [], harness := (true, "a621b415df1880ac353b97da4dcca4b327a419cff4c9ec4c380e78f9fcbe5a7b"), looks := true }, kinds := [], alts := [], laidByText := true, laidKinds := [.data, .data, .data, .data, .sentinel, .sentinel, .pinned], laidTests := true, laidLooks := .later }
def FnExactMinimalTracesCardSaid : Prop := Claim7.holds Tryz.pinned (.plain (OpenSpec.ofChange fnExactMinimalTracesSpec)) fnExactMinimalTracesCard

/-- THE TIED CARD OF 'laws.FnExactConforms'. -/
def fnExactConformsCard : Claim7 := { stood := { row := fnExactConformsRow, standIns := [], harness := (true, "a621b415df1880ac353b97da4dcca4b327a419cff4c9ec4c380e78f9fcbe5a7b"), looks := true }, kinds := [], alts := [], laidByText := true, laidKinds := [.data, .data, .data, .data, .sentinel, .sentinel, .pinned], laidTests := true, laidLooks := .later }
def FnExactConformsCardSaid : Prop := Claim7.holds Tryz.pinned (.plain (OpenSpec.ofChange fnExactConformsSpec)) fnExactConformsCard

/-- THE SECOND FORM's CARD OF 'laws.FnExactMinimalTraces'. -/
def fnExactMinimalTracesUptoCard : Claim7 := { stood := { row := fnExactMinimalTracesUptoRow, standIns := [], harness := (true, "a621b415df1880ac353b97da4dcca4b327a419cff4c9ec4c380e78f9fcbe5a7b"), looks := true }, kinds := [], alts := [], laidByText := true, laidKinds := [.data, .data, .data, .data, .sentinel, .sentinel, .pinned], laidTests := true, laidLooks := .later }
def FnExactMinimalTracesUptoCardSaid : Prop := Claim7.holds Tryz.pinned (.plain (OpenSpec.upto fnExactMinimalTracesSpec)) fnExactMinimalTracesUptoCard

/-- THE SECOND FORM's CARD OF 'laws.FnExactConforms'. -/
def fnExactConformsUptoCard : Claim7 := { stood := { row := fnExactConformsUptoRow, standIns := [], harness := (true, "a621b415df1880ac353b97da4dcca4b327a419cff4c9ec4c380e78f9fcbe5a7b"), looks := true }, kinds := [], alts := [], laidByText := true, laidKinds := [.data, .data, .data, .data, .sentinel, .sentinel, .pinned], laidTests := true, laidLooks := .later }
def FnExactConformsUptoCardSaid : Prop := Claim7.holds Tryz.pinned (.plain (OpenSpec.upto fnExactConformsSpec)) fnExactConformsUptoCard
end Rows
end Go.Proofs.YtaabkeejbhdenaaGreatDoor
