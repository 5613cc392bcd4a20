/-
  What the implementation's labelOf computes.
-/
import Derived.Test.YtkffdamgekoifaaGreatDoorImpl5
namespace Go.Proofs.YtkffdamgekoifaaGreatDoor
open Go Go.RowKit

def labB (name : List UInt8) (xs : List Int) : Bool := if name = tauL then xs.isEmpty else isAction name && decide (xs.length ≤ 2) && xs.all isVal
def labTxt (name : List UInt8) (xs : List Int) : List UInt8 := if xs.isEmpty then name else name ++ 40 :: (Lib.join ((wordsOf xs).map (·.data.toList)) [44] ++ [41])
def RetLab (name : List UInt8) (xs : List Int) (w : World) (e : Ending) (w' : World) : Prop :=
  ∃ t : ByteArray, e = .returned (.tuple #[.string t, .bool (labB name xs)]) ∧ Below w.heap.size w w' ∧ (labB name xs = true → t.data.toList = labTxt name xs)

theorem two_digits : ∀ n : Nat, n < 64 → (Lib.decDigits n).length ≤ 2 := by
  intro n hn
  rw [Lib.decDigits_length]
  by_cases h : n < 10
  · rw [Lib.nDigits_small h]; decide
  · rw [Lib.nDigits_big h, Lib.nDigits_small (by omega)]; decide
theorem itoa_short {n : Int} (h : isVal n = true) : (Lib.itoa n).length ≤ 2 := by
  unfold isVal at h
  simp at h
  unfold Lib.itoa
  rw [if_neg (by omega)]
  exact two_digits _ (by omega)
theorem join_short {xs : List Int} (h2 : xs.length ≤ 2) (h : xs.all isVal = true) : (Lib.join ((wordsOf xs).map (·.data.toList)) [44]).length ≤ 5 := by
  match xs, h2, h with
  | [], _, _ => simp [wordsOf, Lib.join]
  | [x], _, h =>
    have hx := itoa_short (List.all_eq_true.1 h x (by simp))
    simp [wordsOf, Lib.join_length, Lib.lens]; omega
  | [x, y], _, h =>
    have hx := itoa_short (List.all_eq_true.1 h x (by simp))
    have hy := itoa_short (List.all_eq_true.1 h y (by simp))
    simp [wordsOf, Lib.join_length, Lib.lens]; omega

set_option maxRecDepth 100000 in
set_option maxHeartbeats 1000000 in
theorem labelOf_any (v : Value) (s : ByteArray) (lo : Nat) (xs : List Int) (w : World) (hs : s.size ≤ 1073741824) (hn : xs.length ≤ 1073741824) (hv : SliceK 1 encI lo w v xs) (g : Glob w) :
    Calls Tryz.prog 88 #[.string s, v] w (RetLab s.data.toList xs w) := by
  have HV := Lib.hid hv
  obtain ⟨a, ca, rfl, -, -, -⟩ := hv
  by_cases ht : s.toList = tauL
  · have hb : Hid (labB s.data.toList xs = ((xs.length : Int) == 0)) := by
      unfold Hid labB
      rw [if_pos (by rw [← Lib.toList_data]; exact ht)]
      cases xs with
      | nil => rfl
      | cons x r =>
        have : (((x :: r).length : Int) == 0) = false := by rw [beq_eq_false_iff_ne]; simp; omega
        rw [this]; rfl
    have ht' : (s.toList == tauL) = true := by simpa using ht
    unfold tauL at ht ht'
    go_enter Tryz.func88, Tryz.ntmps88
    go_wp2_with fail
    go_ret2
    refine ⟨⟨#[116, 97, 117]⟩, by rw [hb.out]; rfl, Below.refl _ _, fun h => ?_⟩
    rw [hb.out] at h
    have h0 : xs = [] := List.eq_nil_of_length_eq_zero (by simpa using h)
    subst h0
    unfold labTxt
    have e : s.data.toList = [116, 97, 117] := by rw [← Lib.toList_data]; exact ht
    rw [e]
    rfl
  · have hnt : ¬ s.data.toList = tauL := by rw [← Lib.toList_data]; exact ht
    have ht' : (s.toList == tauL) = false := by simpa using ht
    have HL : Hid (labB s.data.toList xs = (isAction s.data.toList && decide (xs.length ≤ 2) && xs.all isVal)) := by unfold Hid labB; rw [if_neg hnt]
    unfold tauL at ht ht' hnt
    obtain ⟨b, hb⟩ : ∃ b, isAction s.data.toList = b := ⟨_, rfl⟩
    have HB := Lib.hid hb
    clear hb
    cases b
    · have HF : Hid (labB s.data.toList xs = false) := by unfold Hid; rw [HL.out, HB.out]; rfl
      go_enter Tryz.func88, Tryz.ntmps88
      go_wp2_with fail
      refine (IsAction_any _ _ hs).mono ?_
      rintro e w' ⟨rfl, rfl⟩
      rw [HB.out]
      go_wp2_with fail
      go_ret2
      exact ⟨⟨#[]⟩, by rw [HF.out]; rfl, Below.refl _ _, fun h => by rw [HF.out] at h; cases h⟩
    · by_cases h2 : 2 < (xs.length : Int)
      · have HF : Hid (labB s.data.toList xs = false) := by unfold Hid; rw [HL.out, decide_eq_false (by omega)]; simp
        go_enter Tryz.func88, Tryz.ntmps88
        go_wp2_with fail
        refine (IsAction_any _ _ hs).mono ?_
        rintro e w' ⟨rfl, rfl⟩
        rw [HB.out]
        go_wp2_with fail
        go_ret2
        exact ⟨⟨#[]⟩, by rw [HF.out]; rfl, Below.refl _ _, fun h => by rw [HF.out] at h; cases h⟩
      · cases hall : xs.all isVal
        · have HF : Hid (labB s.data.toList xs = false) := by unfold Hid; rw [HL.out, hall]; simp
          have HALL := Lib.hid hall
          clear hall
          go_enter Tryz.func88, Tryz.ntmps88
          go_wp2_with fail
          refine (IsAction_any _ _ hs).mono ?_
          rintro e w' ⟨rfl, rfl⟩
          rw [HB.out]
          go_wp2_with fail
          refine (areValues_any lo _ xs _ HV.out).mono ?_
          rintro e w' ⟨rfl, rfl⟩
          rw [HALL.out]
          go_wp2_with fail
          go_ret2
          exact ⟨⟨#[]⟩, by rw [HF.out]; rfl, Below.refl _ _, fun h => by rw [HF.out] at h; cases h⟩
        · have HF : Hid (labB s.data.toList xs = true) := by unfold Hid; rw [HL.out, hall, HB.out, decide_eq_true (by omega)]; rfl
          have HALL := Lib.hid hall
          clear hall
          by_cases h0 : xs.length = 0
          · have h0' : ((xs.length : Int) == 0) = true := by rw [beq_iff_eq]; omega
            have HT : Hid (labTxt s.data.toList xs = s.data.toList) := by unfold Hid labTxt; rw [if_pos (by rw [List.eq_nil_of_length_eq_zero h0]; rfl)]
            have HV0 : Hid (SliceK 1 encI lo w (.slice a 0 ca) xs) := by have := HV.out; rw [h0] at this; exact this
            go_enter Tryz.func88, Tryz.ntmps88
            go_wp2_with fail
            refine (IsAction_any _ _ hs).mono ?_
            rintro e w' ⟨rfl, rfl⟩
            rw [HB.out]
            go_wp2_with fail
            refine (areValues_any lo _ xs _ HV0.out).mono ?_
            rintro e w' ⟨rfl, rfl⟩
            rw [HALL.out]
            go_wp2_with fail
            go_ret2
            exact ⟨s, by rw [HF.out]; rfl, Below.refl _ _, fun _ => HT.out.symm⟩
          · have h0' : ((xs.length : Int) == 0) = false := by rw [beq_eq_false_iff_ne]; omega
            have HT : Hid (labTxt s.data.toList xs = s.data.toList ++ 40 :: (Lib.join ((wordsOf xs).map (·.data.toList)) [44] ++ [41])) := by
              unfold Hid labTxt; rw [if_neg (by rw [List.isEmpty_iff_length_eq_zero]; exact h0)]
            have HLEN : Hid ((Lib.join ((wordsOf xs).map (·.data.toList)) (⟨#[44]⟩ : ByteArray).data.toList).length ≤ 1073741824) := Nat.le_trans (join_short (by omega) HALL.out) (by decide)
            have HBD : Hid (∀ i (h : i < xs.length), -9223372036854775808 ≤ xs[i] ∧ xs[i] ≤ 9223372036854775807) := by
              intro i hi
              have := List.all_eq_true.1 HALL.out xs[i] (List.getElem_mem _)
              unfold isVal at this
              simp at this
              omega
            have hlen : (Lib.join (List.map (fun x => x.data.toList) (wordsOf xs)) [44]).length ≤ 1073741824 := HLEN.out
            have hq1 : ¬ 9223372036854775807 < s.size + 1 + (Lib.join (List.map (fun x => x.data.toList) (wordsOf xs)) [44]).length := by omega
            have hq2 : ¬ 9223372036854775807 < s.size + 1 + (Lib.join (List.map (fun x => x.data.toList) (wordsOf xs)) [44]).length + 1 := by omega
            clear hlen
            go_enter Tryz.func88, Tryz.ntmps88
            go_wp2_with fail
            refine (IsAction_any _ _ hs).mono ?_
            rintro e w' ⟨rfl, rfl⟩
            rw [HB.out]
            go_wp2_with fail
            refine (areValues_any lo _ xs _ HV.out).mono ?_
            rintro e w' ⟨rfl, rfl⟩
            rw [HALL.out]
            go_wp2_with fail
            refine (joined_any _ ⟨#[44]⟩ lo xs _ (by omega) HBD.out HV.out g HLEN.out).mono ?_
            rintro e w2 ⟨rfl, hb2⟩
            have HB2 := Lib.hid hb2
            clear hb2
            go_wp2_with fail
            go_ret2
            refine ⟨_, by rw [HF.out]; rfl, HB2.out, fun _ => ?_⟩
            rw [HT.out]
            simp

end Go.Proofs.YtkffdamgekoifaaGreatDoor
