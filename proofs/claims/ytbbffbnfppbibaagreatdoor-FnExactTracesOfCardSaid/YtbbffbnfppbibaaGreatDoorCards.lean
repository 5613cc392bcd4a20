/-
  DERIVED. GIVEN WITH THE SEED: THE CARDS: each row of YtbbffbnfppbibaaGreatDoorRows.lean that lists a variable, with what it lists TIED to the program's text (the seventh form; the later family's looks); each row that meets fmt, with fmt's text TOLD by the authors' own Lean function (tested against real Go, not proved from fmt's source: count such statements apart). THE CARD IS WHAT COUNTS. Prove the row's statement (the work); the ties are given (YtbbffbnfppbibaaGreatDoorTie.lean); close each card by the builder's one call (the guide's Derived/Test/ToyasCard.lean, 'card_holds'). Laid BY PROGRAM, IN A SANDBOX (cutbox-door.mjs). By AI agents, Wed Nov 11 2026. No macro, syntax, notation, axiom, sorry.
-/
import Derived.Test.YtbbffbnfppbibaaGreatDoorRows
import GoSem.ClaimSeven
namespace Go.Proofs.YtbbffbnfppbibaaGreatDoor
namespace Rows

/-- THE TIED CARD OF 'laws.FnExactCountTraces'. -/
def fnExactCountTracesCard : Claim7 := { stood := { row := fnExactCountTracesRow, standIns := [], harness := (true, "652de97f83864fb086e99c84e26c8bbe314867d1f5b11a59d20eea13c8a076ee"), looks := true }, kinds := [], alts := [], laidByText := true, laidKinds := [.data, .data, .data, .data, .sentinel, .sentinel, .pinned], laidTests := true, laidLooks := .later }
def FnExactCountTracesCardSaid : Prop := Claim7.holds Tryz.pinned (.plain (OpenSpec.ofChange fnExactCountTracesSpec)) fnExactCountTracesCard

/-- THE TIED CARD OF 'laws.FnExactDeterminizeLts'. -/
def fnExactDeterminizeLtsCard : Claim7 := { stood := { row := fnExactDeterminizeLtsRow, standIns := [], harness := (true, "652de97f83864fb086e99c84e26c8bbe314867d1f5b11a59d20eea13c8a076ee"), looks := true }, kinds := [], alts := [], laidByText := true, laidKinds := [.data, .data, .data, .data, .sentinel, .sentinel, .pinned], laidTests := true, laidLooks := .later }
def FnExactDeterminizeLtsCardSaid : Prop := Claim7.holds Tryz.pinned (.plain (OpenSpec.ofChange fnExactDeterminizeLtsSpec)) fnExactDeterminizeLtsCard

/-- THE TIED CARD OF 'laws.FnExactTracesOf'. -/
def fnExactTracesOfCard : Claim7 := { stood := { row := fnExactTracesOfRow, standIns := [], harness := (true, "652de97f83864fb086e99c84e26c8bbe314867d1f5b11a59d20eea13c8a076ee"), looks := true }, kinds := [], alts := [], laidByText := true, laidKinds := [.data, .data, .data, .data, .sentinel, .sentinel, .pinned], laidTests := true, laidLooks := .later }
def FnExactTracesOfCardSaid : Prop := Claim7.holds Tryz.pinned (.plain (OpenSpec.ofChange fnExactTracesOfSpec)) fnExactTracesOfCard

/-- THE TIED CARD OF 'laws.FnExactEqualTraces'. -/
def fnExactEqualTracesCard : Claim7 := { stood := { row := fnExactEqualTracesRow, standIns := [], harness := (true, "652de97f83864fb086e99c84e26c8bbe314867d1f5b11a59d20eea13c8a076ee"), looks := true }, kinds := [], alts := [], laidByText := true, laidKinds := [.data, .data, .data, .data, .sentinel, .sentinel, .pinned], laidTests := true, laidLooks := .later }
def FnExactEqualTracesCardSaid : Prop := Claim7.holds Tryz.pinned (.plain (OpenSpec.ofChange fnExactEqualTracesSpec)) fnExactEqualTracesCard

/-- THE TIED CARD OF 'laws.FnExactIncludesTraces'. -/
def fnExactIncludesTracesCard : Claim7 := { stood := { row := fnExactIncludesTracesRow, standIns := [], harness := (true, "652de97f83864fb086e99c84e26c8bbe314867d1f5b11a59d20eea13c8a076ee"), looks := true }, kinds := [], alts := [], laidByText := true, laidKinds := [.data, .data, .data, .data, .sentinel, .sentinel, .pinned], laidTests := true, laidLooks := .later }
def FnExactIncludesTracesCardSaid : Prop := Claim7.holds Tryz.pinned (.plain (OpenSpec.ofChange fnExactIncludesTracesSpec)) fnExactIncludesTracesCard

/-- THE TIED CARD OF 'laws.FnExactMinimalTraces'. -/
def fnExactMinimalTracesCard : Claim7 := { stood := { row := fnExactMinimalTracesRow, standIns := [], harness := (true, "652de97f83864fb086e99c84e26c8bbe314867d1f5b11a59d20eea13c8a076ee"), looks := true }, kinds := [], alts := [], laidByText := true, laidKinds := [.data, .data, .data, .data, .sentinel, .sentinel, .pinned], laidTests := true, laidLooks := .later }
def FnExactMinimalTracesCardSaid : Prop := Claim7.holds Tryz.pinned (.plain (OpenSpec.ofChange fnExactMinimalTracesSpec)) fnExactMinimalTracesCard

/-- THE SECOND FORM's CARD OF 'laws.FnExactCountTraces'. -/
def fnExactCountTracesUptoCard : Claim7 := { stood := { row := fnExactCountTracesUptoRow, standIns := [], harness := (true, "652de97f83864fb086e99c84e26c8bbe314867d1f5b11a59d20eea13c8a076ee"), looks := true }, kinds := [], alts := [], laidByText := true, laidKinds := [.data, .data, .data, .data, .sentinel, .sentinel, .pinned], laidTests := true, laidLooks := .later }
def FnExactCountTracesUptoCardSaid : Prop := Claim7.holds Tryz.pinned (.plain (OpenSpec.upto fnExactCountTracesSpec)) fnExactCountTracesUptoCard

/-- THE SECOND FORM's CARD OF 'laws.FnExactDeterminizeLts'. -/
def fnExactDeterminizeLtsUptoCard : Claim7 := { stood := { row := fnExactDeterminizeLtsUptoRow, standIns := [], harness := (true, "652de97f83864fb086e99c84e26c8bbe314867d1f5b11a59d20eea13c8a076ee"), looks := true }, kinds := [], alts := [], laidByText := true, laidKinds := [.data, .data, .data, .data, .sentinel, .sentinel, .pinned], laidTests := true, laidLooks := .later }
def FnExactDeterminizeLtsUptoCardSaid : Prop := Claim7.holds Tryz.pinned (.plain (OpenSpec.upto fnExactDeterminizeLtsSpec)) fnExactDeterminizeLtsUptoCard

/-- THE SECOND FORM's CARD OF 'laws.FnExactTracesOf'. -/
def fnExactTracesOfUptoCard : Claim7 := { stood := { row := fnExactTracesOfUptoRow, standIns := [], harness := (true, "652de97f83864fb086e99c84e26c8bbe314867d1f5b11a59d20eea13c8a076ee"), looks := true }, kinds := [], alts := [], laidByText := true, laidKinds := [.data, .data, .data, .data, .sentinel, .sentinel, .pinned], laidTests := true, laidLooks := .later }
def FnExactTracesOfUptoCardSaid : Prop := Claim7.holds Tryz.pinned (.plain (OpenSpec.upto fnExactTracesOfSpec)) fnExactTracesOfUptoCard

/-- THE SECOND FORM's CARD OF 'laws.FnExactEqualTraces'. -/
def fnExactEqualTracesUptoCard : Claim7 := { stood := { row := fnExactEqualTracesUptoRow, standIns := [], harness := (true, "652de97f83864fb086e99c84e26c8bbe314867d1f5b11a59d20eea13c8a076ee"), looks := true }, kinds := [], alts := [], laidByText := true, laidKinds := [.data, .data, .data, .data, .sentinel, .sentinel, .pinned], laidTests := true, laidLooks := .later }
def FnExactEqualTracesUptoCardSaid : Prop := Claim7.holds Tryz.pinned (.plain (OpenSpec.upto fnExactEqualTracesSpec)) fnExactEqualTracesUptoCard

/-- THE SECOND FORM's CARD OF 'laws.FnExactIncludesTraces'. -/
def fnExactIncludesTracesUptoCard : Claim7 := { stood := { row := fnExactIncludesTracesUptoRow, standIns := [], harness := (true, "652de97f83864fb086e99c84e26c8bbe314867d1f5b11a59d20eea13c8a076ee"), looks := true }, kinds := [], alts := [], laidByText := true, laidKinds := [.data, .data, .data, .data, .sentinel, .sentinel, .pinned], laidTests := true, laidLooks := .later }
def FnExactIncludesTracesUptoCardSaid : Prop := Claim7.holds Tryz.pinned (.plain (OpenSpec.upto fnExactIncludesTracesSpec)) fnExactIncludesTracesUptoCard

/-- THE SECOND FORM's CARD OF 'laws.FnExactMinimalTraces'. -/
def fnExactMinimalTracesUptoCard : Claim7 := { stood := { row := fnExactMinimalTracesUptoRow, standIns := [], harness := (true, "652de97f83864fb086e99c84e26c8bbe314867d1f5b11a59d20eea13c8a076ee"), looks := true }, kinds := [], alts := [], laidByText := true, laidKinds := [.data, .data, .data, .data, .sentinel, .sentinel, .pinned], laidTests := true, laidLooks := .later }
def FnExactMinimalTracesUptoCardSaid : Prop := Claim7.holds Tryz.pinned (.plain (OpenSpec.upto fnExactMinimalTracesSpec)) fnExactMinimalTracesUptoCard
end Rows
end Go.Proofs.YtbbffbnfppbibaaGreatDoor
