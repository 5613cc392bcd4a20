/-
  The closed facts of the row of FnLittleBrothers, one by one.
-/
import Derived.Test.YtdkbbknhighebaaGreatDoorCards
import Derived.Test.YtdkbbknhighebaaGreatDoorTie
import Derived.Test.YtdkbbknhighebaaGreatDoorL1
import Derived.Deep.DeepHandedRow
import Derived.Lib.LaidTab
import Derived.Stop.LaidErr
import Derived.Lay
import Derived.Shelf.Vars
import Derived.SevenTiedAt
namespace Go.Proofs.YtdkbbknhighebaaGreatDoor
open Go Go.ChangeShapes Go.WideShapes Go.ChangeAt Go.RowKit


theorem and_both {a b : Bool} (h : a = true) (k : b = true) : (a && b) = true := by rw [h, k]; rfl
theorem closed_1 : (laidOutB Tryz.pinned.checked.prog) = true := by kernel_rfl
theorem closed_2 : (mapsRowed Tryz.pinned.checked.prog) = true := by kernel_rfl
theorem closed_3 : (Tryz.f3.params.all (Tryz.pinned.checked.prog.readableRec ·)) = true := by kernel_rfl
theorem closed_4 : (namedTie Tryz.pinned.checked.prog Rows.fnLittleBrothersRow.named Rows.fnLittleBrothersSpec.vars) = true := by kernel_rfl
theorem closed_5 : (Rows.fnLittleBrothersRow.stops == []) = true := by kernel_rfl
theorem closed_6 : (Tryz.pinned.checked.prog.stops == []) = true := by kernel_rfl
theorem closed_7 : (Rows.fnLittleBrothersRow.knobs == []) = true := by kernel_rfl
theorem closed_8 : (Tryz.pinned.checked.prog.stopKnobs == []) = true := by kernel_rfl
theorem closed_9 : (Rows.fnLittleBrothersRow.inPlace == Tryz.pinned.checked.prog.inPlace 3) = true := by kernel_rfl
theorem closed_10 : (Rows.fnLittleBrothersRow.unfollowed == Tryz.pinned.checked.prog.unfollowed 3) = true := by kernel_rfl
theorem closed_11 : (Rows.fnLittleBrothersRow.recurses == Tryz.pinned.checked.prog.recurses 3) = true := by kernel_rfl
theorem closed_12 : (Rows.fnLittleBrothersRow.named == Tryz.pinned.checked.prog.varsNamed 3) = true := by kernel_rfl
theorem closed_13 : (Rows.fnLittleBrothersRow.maps == (Tryz.f3.params.toList ++ Rows.fnLittleBrothersSpec.plain.varTypes Tryz.pinned.checked.prog).any (Tryz.pinned.checked.prog.mapsRec ·)) = true := by kernel_rfl
theorem closed_14 : (Rows.fnLittleBrothersRow.ifaces == (Tryz.f3.params.toList ++ Rows.fnLittleBrothersSpec.plain.varTypes Tryz.pinned.checked.prog).any (Tryz.pinned.checked.prog.ifacesRec ·)) = true := by kernel_rfl
theorem closed_15 : (Rows.fnLittleBrothersRow.mapsOut == Tryz.pinned.checked.prog.mapsAmong Tryz.f3.resultTypes.toList) = true := by kernel_rfl
theorem closed_16 : (Rows.fnLittleBrothersRow.loops == (Tryz.f3.params.toList ++ Rows.fnLittleBrothersSpec.plain.varTypes Tryz.pinned.checked.prog).any (Tryz.pinned.checked.prog.loopsFrom ·)) = true := by kernel_rfl
theorem closed_17 : (Rows.fnLittleBrothersRow.wideKeys == (Tryz.f3.params.toList ++ Rows.fnLittleBrothersSpec.plain.varTypes Tryz.pinned.checked.prog ++ Tryz.f3.resultTypes.toList).any (Tryz.pinned.checked.prog.wideKeysFrom ·)) = true := by kernel_rfl
theorem closed_18 : (Rows.fnLittleBrothersSpec.vars.all (Tryz.pinned.checked.prog.varReadable ·)) = true := by kernel_rfl
theorem closed_19 : (Tryz.f3.resultTypes.all (fun t => Tryz.pinned.checked.prog.readableRec t && decide (t < Tryz.pinned.checked.prog.types.size))) = true := by kernel_rfl
theorem closed_20 : (Rows.fnLittleBrothersRow.ifacesOut == Tryz.f3.resultTypes.toList.any (Tryz.pinned.checked.prog.ifacesRec ·)) = true := by kernel_rfl
theorem closed_21 : (Rows.fnLittleBrothersRow.loopsOut == Tryz.f3.resultTypes.toList.any (Tryz.pinned.checked.prog.loopsFrom ·)) = true := by kernel_rfl
theorem closed_22 : (Rows.fnLittleBrothersRow.plainKeys == Tryz.pinned.checked.prog.plainKeys) = true := by kernel_rfl
theorem closed_23 : (Rows.fnLittleBrothersRow.shortTexts.isNone) = true := by kernel_rfl
theorem closed_24 : (Tryz.pinned.checked.prog.stopsHeard) = true := by kernel_rfl
theorem closed_25 : (Tryz.pinned.checked.prog.mayEnter) = true := by kernel_rfl
theorem closed_26 : (Rows.fnLittleBrothersRow.lifted == Tryz.pinned.checked.prog.liftsFinal) = true := by kernel_rfl
theorem closed_27 : (Tryz.pinned.checked.prog.make == some Rows.fnLittleBrothersRow.make) = true := by kernel_rfl
theorem closed_29 : (Rows.fnLittleBrothersRow.pinned == Rows.fnLittleBrothersRow.pinnedBy) = true := by kernel_rfl
theorem closed_30 : (Rows.fnLittleBrothersRow.veiled == (Tryz.f3.params.toList ++ Rows.fnLittleBrothersSpec.plain.varTypes Tryz.pinned.checked.prog ++ Tryz.f3.resultTypes.toList).any (Tryz.pinned.checked.prog.veiledRec ·)) = true := by kernel_rfl
theorem closed_31 : (Rows.fnLittleBrothersRow.veiledFits Tryz.pinned.checked.prog Tryz.f3.params.toList (Tryz.f3.params.toList ++ Rows.fnLittleBrothersSpec.plain.varTypes Tryz.pinned.checked.prog ++ Tryz.f3.resultTypes.toList)) = true := by kernel_rfl
theorem closed_all : joinedFacts Tryz.pinned.checked.prog 3 Tryz.f3 Rows.fnLittleBrothersSpec Rows.fnLittleBrothersRow = true := by
 unfold joinedFacts
 exact (and_both (and_both (and_both (and_both (and_both (and_both (and_both (and_both (and_both (and_both (and_both (and_both (and_both (and_both (and_both (and_both (and_both (and_both (and_both (and_both (and_both (and_both (and_both (and_both (and_both (and_both (and_both (and_both (and_both (and_both (and_both (by kernel_rfl) closed_1) closed_2) closed_3) closed_4) closed_5) closed_6) closed_7) closed_8) closed_9) closed_10) closed_11) closed_12) closed_13) closed_14) closed_15) closed_16) closed_17) closed_18) closed_19) closed_20) closed_21) closed_22) closed_23) closed_24) closed_25) closed_26) closed_27) (by kernel_rfl)) closed_29) closed_30) closed_31)

end Go.Proofs.YtdkbbknhighebaaGreatDoor
