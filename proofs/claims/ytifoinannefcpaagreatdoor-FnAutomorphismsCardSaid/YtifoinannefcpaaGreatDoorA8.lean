/-
  What the implementation's labelOf computes.
  What the implementation's readLabel and IsLabel compute.
  Plain laws: the texts that strconv reads and that are their numbers' decimal forms.
  Plain laws: the implementation's reading of a label says what the plain definition says.
-/
import Derived.Test.YtifoinannefcpaaGreatDoorA7
import Derived.Lib.SplitLaws
import Derived.OwnWalk
import Derived.Test.YtifoinannefcpaaGreatDoorA5
import Derived.Lib.ParseIntBTie
import Derived.Lib.AtoiAllCases
import Derived.Lib.AtoiTie
import Derived.Lib.IndexBytes
namespace Go.Proofs.YtifoinannefcpaaGreatDoor
open Go Go.RowKit

def labB (name : List UInt8) (xs : List Int) : Bool := if name = tauL then xs.isEmpty else isAction name && decide (xs.length ≤ 2) && xs.all isVal
def labTxt (name : List UInt8) (xs : List Int) : List UInt8 := if xs.isEmpty then name else name ++ 40 :: (Lib.join ((wordsOf xs).map (·.data.toList)) [44] ++ [41])
def RetLab (name : List UInt8) (xs : List Int) (w : World) (e : Ending) (w' : World) : Prop :=
 ∃ t : ByteArray, e = .returned (.tuple #[.string t, .bool (labB name xs)]) ∧ Below w.heap.size w w' ∧ (labB name xs = true → t.data.toList = labTxt name xs)

theorem two_digits : ∀ n : Nat, n < 64 → (Lib.decDigits n).length ≤ 2 := by
 intro n hn
 rw [Lib.decDigits_length]
 by_cases h : n < 10
 ·rw [Lib.nDigits_small h]; decide
 ·rw [Lib.nDigits_big h, Lib.nDigits_small (by omega)]; decide
theorem itoa_short {n : Int} (h : isVal n = true) : (Lib.itoa n).length ≤ 2 := by
 unfold isVal at h
 simp at h
 unfold Lib.itoa
 rw [if_neg (by omega)]
 exact two_digits _ (by omega)
theorem join_short {xs : List Int} (h2 : xs.length ≤ 2) (h : xs.all isVal = true) : (Lib.join ((wordsOf xs).map (·.data.toList)) [44]).length ≤ 5 := by
 match xs, h2, h with
 | [], _, _ => simp [wordsOf, Lib.join]
 | [x], _, h =>
  have hx := itoa_short (List.all_eq_true.1 h x (by simp))
  simp [wordsOf, Lib.join_length, Lib.lens]; omega
 | [x, y], _, h =>
  have hx := itoa_short (List.all_eq_true.1 h x (by simp))
  have hy := itoa_short (List.all_eq_true.1 h y (by simp))
  simp [wordsOf, Lib.join_length, Lib.lens]; omega

set_option maxRecDepth 100000 in
set_option maxHeartbeats 1000000 in
theorem labelOf_any (v : Value) (s : ByteArray) (lo : Nat) (xs : List Int) (w : World) (hs : s.size ≤ 1073741824) (hn : xs.length ≤ 1073741824) (hv : SliceK 1 encI lo w v xs) (g : Glob w) :
  Calls Tryz.prog 81 #[.string s, v] w (RetLab s.data.toList xs w) := by
 have HV := Lib.hid hv
 obtain ⟨a, ca, rfl, -, -, -⟩ := hv
 by_cases ht : s.toList = tauL
 ·have hb : Hid (labB s.data.toList xs = ((xs.length : Int) == 0)) := by
   unfold Hid labB
   rw [if_pos (by rw [← Lib.toList_data]; exact ht)]
   cases xs with
   | nil => rfl
   | cons x r =>
    have : (((x :: r).length : Int) == 0) = false := by rw [beq_eq_false_iff_ne]; simp; omega
    rw [this]; rfl
  have ht' : (s.toList == tauL) = true := by simpa using ht
  unfold tauL at ht ht'
  go_enter Tryz.func81, Tryz.ntmps81
  go_wp2_with fail
  go_ret2
  refine ⟨⟨#[116, 97, 117]⟩, by rw [hb.out]; rfl, Below.refl _ _, fun h => ?_⟩
  rw [hb.out] at h
  have h0 : xs = [] := List.eq_nil_of_length_eq_zero (by simpa using h)
  subst h0
  unfold labTxt
  have e : s.data.toList = [116, 97, 117] := by rw [← Lib.toList_data]; exact ht
  rw [e]
  rfl
 ·have hnt : ¬ s.data.toList = tauL := by rw [← Lib.toList_data]; exact ht
  have ht' : (s.toList == tauL) = false := by simpa using ht
  have HL : Hid (labB s.data.toList xs = (isAction s.data.toList && decide (xs.length ≤ 2) && xs.all isVal)) := by unfold Hid labB; rw [if_neg hnt]
  unfold tauL at ht ht' hnt
  obtain ⟨b, hb⟩ : ∃ b, isAction s.data.toList = b := ⟨_, rfl⟩
  have HB := Lib.hid hb
  clear hb
  cases b
  ·have HF : Hid (labB s.data.toList xs = false) := by unfold Hid; rw [HL.out, HB.out]; rfl
   go_enter Tryz.func81, Tryz.ntmps81
   go_wp2_with fail
   refine (IsAction_any _ _ hs).mono ?_
   rintro e w' ⟨rfl, rfl⟩
   rw [HB.out]
   go_wp2_with fail
   go_ret2
   exact ⟨⟨#[]⟩, by rw [HF.out]; rfl, Below.refl _ _, fun h => by rw [HF.out] at h; cases h⟩
  ·by_cases h2 : 2 < (xs.length : Int)
   ·have HF : Hid (labB s.data.toList xs = false) := by unfold Hid; rw [HL.out, decide_eq_false (by omega)]; simp
    go_enter Tryz.func81, Tryz.ntmps81
    go_wp2_with fail
    refine (IsAction_any _ _ hs).mono ?_
    rintro e w' ⟨rfl, rfl⟩
    rw [HB.out]
    go_wp2_with fail
    go_ret2
    exact ⟨⟨#[]⟩, by rw [HF.out]; rfl, Below.refl _ _, fun h => by rw [HF.out] at h; cases h⟩
   ·cases hall : xs.all isVal
    ·have HF : Hid (labB s.data.toList xs = false) := by unfold Hid; rw [HL.out, hall]; simp
     have HALL := Lib.hid hall
     clear hall
     go_enter Tryz.func81, Tryz.ntmps81
     go_wp2_with fail
     refine (IsAction_any _ _ hs).mono ?_
     rintro e w' ⟨rfl, rfl⟩
     rw [HB.out]
     go_wp2_with fail
     refine (areValues_any lo _ xs _ HV.out).mono ?_
     rintro e w' ⟨rfl, rfl⟩
     rw [HALL.out]
     go_wp2_with fail
     go_ret2
     exact ⟨⟨#[]⟩, by rw [HF.out]; rfl, Below.refl _ _, fun h => by rw [HF.out] at h; cases h⟩
    ·have HF : Hid (labB s.data.toList xs = true) := by unfold Hid; rw [HL.out, hall, HB.out, decide_eq_true (by omega)]; rfl
     have HALL := Lib.hid hall
     clear hall
     by_cases h0 : xs.length = 0
     ·have h0' : ((xs.length : Int) == 0) = true := by rw [beq_iff_eq]; omega
      have HT : Hid (labTxt s.data.toList xs = s.data.toList) := by unfold Hid labTxt; rw [if_pos (by rw [List.eq_nil_of_length_eq_zero h0]; rfl)]
      have HV0 : Hid (SliceK 1 encI lo w (.slice a 0 ca) xs) := by have := HV.out; rw [h0] at this; exact this
      go_enter Tryz.func81, Tryz.ntmps81
      go_wp2_with fail
      refine (IsAction_any _ _ hs).mono ?_
      rintro e w' ⟨rfl, rfl⟩
      rw [HB.out]
      go_wp2_with fail
      refine (areValues_any lo _ xs _ HV0.out).mono ?_
      rintro e w' ⟨rfl, rfl⟩
      rw [HALL.out]
      go_wp2_with fail
      go_ret2
      exact ⟨s, by rw [HF.out]; rfl, Below.refl _ _, fun _ => HT.out.symm⟩
     ·have h0' : ((xs.length : Int) == 0) = false := by rw [beq_eq_false_iff_ne]; omega
      have HT : Hid (labTxt s.data.toList xs = s.data.toList ++ 40 :: (Lib.join ((wordsOf xs).map (·.data.toList)) [44] ++ [41])) := by
       unfold Hid labTxt; rw [if_neg (by rw [List.isEmpty_iff_length_eq_zero]; exact h0)]
      have HLEN : Hid ((Lib.join ((wordsOf xs).map (·.data.toList)) (⟨#[44]⟩ : ByteArray).data.toList).length ≤ 1073741824) := Nat.le_trans (join_short (by omega) HALL.out) (by decide)
      have HBD : Hid (∀ i (h : i < xs.length), -9223372036854775808 ≤ xs[i] ∧ xs[i] ≤ 9223372036854775807) := by
       intro i hi
       have := List.all_eq_true.1 HALL.out xs[i] (List.getElem_mem _)
       unfold isVal at this
       simp at this
       omega
      have hlen : (Lib.join (List.map (fun x => x.data.toList) (wordsOf xs)) [44]).length ≤ 1073741824 := HLEN.out
      have hq1 : ¬ 9223372036854775807 < s.size + 1 + (Lib.join (List.map (fun x => x.data.toList) (wordsOf xs)) [44]).length := by omega
      have hq2 : ¬ 9223372036854775807 < s.size + 1 + (Lib.join (List.map (fun x => x.data.toList) (wordsOf xs)) [44]).length + 1 := by omega
      clear hlen
      go_enter Tryz.func81, Tryz.ntmps81
      go_wp2_with fail
      refine (IsAction_any _ _ hs).mono ?_
      rintro e w' ⟨rfl, rfl⟩
      rw [HB.out]
      go_wp2_with fail
      refine (areValues_any lo _ xs _ HV.out).mono ?_
      rintro e w' ⟨rfl, rfl⟩
      rw [HALL.out]
      go_wp2_with fail
      refine (joined_any _ ⟨#[44]⟩ lo xs _ (by omega) HBD.out HV.out g HLEN.out).mono ?_
      rintro e w2 ⟨rfl, hb2⟩
      have HB2 := Lib.hid hb2
      clear hb2
      go_wp2_with fail
      go_ret2
      refine ⟨_, by rw [HF.out]; rfl, HB2.out, fun _ => ?_⟩
      rw [HT.out]
      simp

end Go.Proofs.YtifoinannefcpaaGreatDoor

namespace Go.Proofs.YtifoinannefcpaaGreatDoor
open Go Go.RowKit

/-- The parts that readLabel reads. -/
def partsB (rest : List UInt8) : List ByteArray := Lib.splitB ⟨#[44]⟩ 0 (Lib.countB ⟨(Lib.trimSuffix rest [41]).toArray⟩ ⟨#[44]⟩) ⟨(Lib.trimSuffix rest [41]).toArray⟩
def readOk (l : List UInt8) : Bool :=
 if (Lib.cut l [40]).2.2 = true then
  decsOk (partsB (Lib.cut l [40]).2.1) && labB (Lib.cut l [40]).1 (decs (partsB (Lib.cut l [40]).2.1)) && decide (labTxt (Lib.cut l [40]).1 (decs (partsB (Lib.cut l [40]).2.1)) = l)
 else labB (Lib.cut l [40]).1 [] && decide ((Lib.cut l [40]).1 = l)
def RetRead (l : List UInt8) (w : World) (e : Ending) (w' : World) : Prop := ∃ n v, e = .returned (.tuple #[n, v, .bool (readOk l)]) ∧ Below w.heap.size w w' ∧ (readOk l = true → n = .string ⟨(Lib.cut l [40]).1.toArray⟩)

theorem splitB_mem (sep : ByteArray) : ∀ (k : Nat) (s p : ByteArray), p ∈ Lib.splitB sep 0 k s → p.size ≤ s.size
 | 0, s, p, h => by simp [Lib.splitB] at h; subst h; exact Nat.le_refl _
 | k + 1, s, p, h => by
  unfold Lib.splitB at h
  split at h
  ·simp at h; subst h; exact Nat.le_refl _
  ·rcases List.mem_cons.1 h with rfl | h
   ·rw [ByteArray.size_extract]; omega
   ·have := splitB_mem sep k _ p h
    rw [ByteArray.size_extract] at this; omega

theorem cut_size (l : List UInt8) : (Lib.cut l [40]).1.length ≤ l.length ∧ (Lib.cut l [40]).2.1.length ≤ l.length := by
 unfold Lib.cut
 split
 ·simp; omega
 ·simp

set_option maxRecDepth 100000 in
set_option maxHeartbeats 1000000 in
theorem readLabel_any (s : ByteArray) (w : World) (hs : s.size ≤ 1048576) (g : Glob w) : Calls Tryz.prog 63 #[.string s] w (RetRead s.data.toList w) := by
 have G := Lib.hid g
 obtain ⟨m, hm⟩ := g.max
 have HM := Lib.hid hm
 clear g hm
 have hz := cut_size s.data.toList
 rw [len_data] at hz
 obtain ⟨l1, hl1⟩ : ∃ l1, (Lib.cut s.data.toList [40]).1 = l1 := ⟨_, rfl⟩
 obtain ⟨l2, hl2⟩ : ∃ l2, (Lib.cut s.data.toList [40]).2.1 = l2 := ⟨_, rfl⟩
 rw [hl1, hl2] at hz
 have HNAME := Lib.hid hl1
 have HR0 : Hid (readOk s.data.toList = if (Lib.cut s.data.toList [40]).2.2 = true then decsOk (partsB l2) && labB l1 (decs (partsB l2)) && decide (labTxt l1 (decs (partsB l2)) = s.data.toList) else labB l1 [] && decide (l1 = s.data.toList)) := by
  unfold Hid readOk
  rw [hl1, hl2]
 have HCUT : Hid (Calls Tryz.prog 77 #[.string s, .string ⟨#[40]⟩] w fun e w' => e = .returned (.tuple #[.string ⟨l1.toArray⟩, .string ⟨l2.toArray⟩, .bool (Lib.cut s.data.toList [40]).2.2]) ∧ ∃ n, w' = w.drewN n) := by
  have := Tryz.strings_Cut s ⟨#[40]⟩ m w (by omega) HM.out
  unfold Hid
  rw [← hl1, ← hl2]
  exact this
 have hz1 : (⟨l1.toArray⟩ : ByteArray).size ≤ 1073741824 := by rw [Lib.size_eq]; simp; omega
 clear hl1 hl2
 cases hmore : (Lib.cut s.data.toList [40]).2.2
 ·rw [hmore] at HCUT HR0
  have HN0 : Hid (SliceK 1 encI 0 w (.slice none 0 0) []) := ⟨none, 0, rfl, by simp, by simp, .inl rfl⟩
  go_enter Tryz.func63, Tryz.ntmps63
  go_wp2_with fail
  refine Calls.mono HCUT.out ?_
  rintro e w1 ⟨rfl, k, rfl⟩
  have HB0 : Hid (Below w.heap.size w (w.drewN k)) := below_drewN (Below.refl _ _) k
  go_wp2_with fail
  refine (labelOf_any (.slice none 0 0) ⟨l1.toArray⟩ 0 [] _ hz1 (by simp) (HN0.out.below HB0.out) (G.out.below HB0.out)).mono ?_
  rintro e w2 ⟨t, rfl, hb2, ht⟩
  have HB2 := Lib.hid (HB0.out.trans (hb2.mono HB0.out.size))
  have HT := Lib.hid ht
  clear hb2 ht
  change Hid (labB l1 [] = true → t.data.toList = labTxt l1 []) at HT
  show _
  obtain ⟨b, hb⟩ : ∃ b, labB l1 [] = b := ⟨_, rfl⟩
  rw [show labB (⟨l1.toArray⟩ : ByteArray).data.toList [] = b from hb]
  cases b
  ·have HF : Hid (readOk s.data.toList = false) := by unfold Hid; rw [HR0.out, hb]; simp
   clear hb
   go_wp2_with fail
   go_ret3
   exact ⟨.string ⟨#[]⟩, .slice none 0 0, by rw [HF.out]; rfl, HB2.out, fun h => by rw [HF.out] at h; cases h⟩
  ·have htt : t.data.toList = l1 := HT.out hb
   by_cases heq : l1 = s.data.toList
   ·have HEQ := Lib.hid heq
    have HF : Hid (readOk s.data.toList = true) := by unfold Hid; rw [HR0.out, hb]; simp [heq]
    have hq : (t.toList == s.toList) = true := by rw [Lib.toList_data, Lib.toList_data, htt, heq]; simp
    clear hb htt
    go_wp2_with fail
    go_ret3
    exact ⟨_, _, by rw [HF.out]; rfl, HB2.out, fun _ => by rw [HNAME.out, HEQ.out]; rfl⟩
   ·have HF : Hid (readOk s.data.toList = false) := by unfold Hid; rw [HR0.out, hb]; simp [heq]
    have hq : (t.toList == s.toList) = false := by rw [Lib.toList_data, Lib.toList_data, htt]; simpa using heq
    clear hb htt heq
    go_wp2_with fail
    go_ret3
    exact ⟨.string ⟨#[]⟩, .slice none 0 0, by rw [HF.out]; rfl, HB2.out, fun h => by rw [HF.out] at h; cases h⟩
 ·rw [hmore] at HCUT HR0
  obtain ⟨r, hr⟩ : ∃ r : ByteArray, r = ⟨(Lib.trimSuffix l2 [41]).toArray⟩ := ⟨_, rfl⟩
  have hrz : r.size ≤ 1073741824 := by
   rw [hr, Lib.size_eq]
   show (Lib.trimSuffix l2 [41]).length ≤ _
   unfold Lib.trimSuffix
   split
   ·rw [List.length_take]; omega
   ·omega
  obtain ⟨ps, hps⟩ : ∃ ps, ps = partsB l2 := ⟨_, rfl⟩
  have hps' : Lib.splitB ⟨#[44]⟩ 0 (Lib.countB r ⟨#[44]⟩) r = ps := by rw [hps, hr]; rfl
  have hpl : ps.length = Lib.countB r ⟨#[44]⟩ + 1 := by rw [← hps']; exact Lib.splitB_all _ (by decide) 0 _ _ rfl
  rw [← hps] at HR0
  have hl2z : (⟨l2.toArray⟩ : ByteArray).size ≤ 9223372036854775807 := by rw [Lib.size_eq]; simp; omega
  have HTS : Hid (∀ w', Calls Tryz.prog 80 #[.string ⟨l2.toArray⟩, .string ⟨#[41]⟩] w' fun e w2 => e = .returned (.string r) ∧ w2 = w') := by
   intro w'
   rw [hr]
   exact Tryz.strings_TrimSuffix ⟨l2.toArray⟩ ⟨#[41]⟩ w' hl2z
  have HSP : Hid (∀ w', w'.cell? ⟨0, 0, none⟩ = some (.int .i64 m) → Calls Tryz.prog 79 #[.string r, .string ⟨#[44]⟩] w' fun e w2 => e = .returned (.slice (some ⟨w'.heap.size, 0, none⟩) ps.length ps.length) ∧ w2 = w'.alloc (.cells (ps.map Value.string).toArray 9)) := by
   intro w' hw
   rw [hpl, ← hps']
   exact Tryz.strings_Split r ⟨#[44]⟩ m w' (by omega) hw (by decide)
  have HPZ : Hid (∀ i (h : i < ps.length), ps[i].size ≤ 1073741824) := by
   intro i hi
   have h1 : ps[i] ∈ Lib.splitB ⟨#[44]⟩ 0 (Lib.countB r ⟨#[44]⟩) r := by rw [hps']; exact List.getElem_mem _
   exact Nat.le_trans (splitB_mem _ _ _ _ h1) hrz
  have hrz2 : r.size ≤ 1048576 := by
   rw [hr, Lib.size_eq]
   show (Lib.trimSuffix l2 [41]).length ≤ _
   unfold Lib.trimSuffix
   split
   ·rw [List.length_take]; omega
   ·omega
  have hplen : ps.length ≤ 1048577 := by
   have := Lib.countB_le ⟨#[44]⟩ (by decide) _ r (Nat.le_refl _)
   omega
  clear hrz2
  clear hps hps' hpl hr hl2z hrz hz
  go_enter Tryz.func63, Tryz.ntmps63
  go_wp2_with fail
  refine Calls.mono HCUT.out ?_
  rintro e w1 ⟨rfl, k, rfl⟩
  have HB0 : Hid (Below w.heap.size w (w.drewN k)) := below_drewN (Below.refl _ _) k
  go_wp2_with fail
  refine Calls.mono (HTS.out _) ?_
  rintro e w1 ⟨rfl, rfl⟩
  go_wp2_with fail
  refine Calls.mono (HSP.out _ (keeps HB0.out (World.block_lt_of_cell? w _ HM.out) HM.out)) ?_
  rintro e w1 ⟨rfl, hw1⟩
  have HB1 : Hid (Below w.heap.size w w1) := by
   unfold Hid
   rw [hw1]
   exact HB0.out.alloc HB0.out.size _
  have HPS : Hid (SliceK 1 encS 0 w1 (.slice (some ⟨(w.drewN k).heap.size, 0, none⟩) ps.length ps.length) ps) := by
   have := World.ownsRow_lit (base := 0) (e := 9) (size := 1) (w.drewN k) (ps.map Value.string).toArray ps.length (Nat.zero_le _) (by simp [maxLen]; omega) (by simp)
   rw [← hw1] at this
   exact SliceK.of_owns (e := 9) encS_len rfl (by rw [flat_encS]; simpa using this)
  clear hw1
  go_wp2_with fail
  refine (readNumbers_any 0 _ ps _ HPZ.out (by omega) HPS.out (G.out.below HB1.out)).mono ?_
  rintro e w2 ⟨v, rfl, hb2, ho2⟩
  have HB2 := Lib.hid (HB1.out.trans (hb2.mono HB1.out.size))
  have HO2 := Lib.hid ho2
  clear hb2 ho2
  cases hok : decsOk ps
  ·have HF : Hid (readOk s.data.toList = false) := by unfold Hid; rw [HR0.out, hok]; simp
   clear hok
   go_wp2_with fail
   go_ret3
   exact ⟨.string ⟨#[]⟩, .slice none 0 0, by rw [HF.out]; rfl, HB2.out, fun h => by rw [HF.out] at h; cases h⟩
  ·have HNS : Hid (SliceK 1 encI 0 w2 v (decs ps)) := SliceK.of_owns (e := 2) encI_len rfl (by rw [flat_encI]; exact own_lower (HO2.out hok) (Nat.zero_le _))
   have hdl : (decs ps).length ≤ 1048577 := by simpa [decs] using hplen
   rw [hok] at HR0
   clear hok HO2
   go_wp2_with fail
   refine (labelOf_any v ⟨l1.toArray⟩ 0 (decs ps) _ hz1 (by omega) HNS.out (G.out.below HB2.out)).mono ?_
   rintro e w3 ⟨t, rfl, hb3, ht⟩
   have HB3 := Lib.hid (HB2.out.trans (hb3.mono HB2.out.size))
   have HT := Lib.hid ht
   clear hb3 ht
   change Hid (labB l1 (decs ps) = true → t.data.toList = labTxt l1 (decs ps)) at HT
   obtain ⟨b, hb⟩ : ∃ b, labB l1 (decs ps) = b := ⟨_, rfl⟩
   rw [show labB (⟨l1.toArray⟩ : ByteArray).data.toList (decs ps) = b from hb]
   cases b
   ·have HF : Hid (readOk s.data.toList = false) := by unfold Hid; rw [HR0.out, hb]; simp
    clear hb
    go_wp2_with fail
    go_ret3
    exact ⟨.string ⟨#[]⟩, .slice none 0 0, by rw [HF.out]; rfl, HB3.out, fun h => by rw [HF.out] at h; cases h⟩
   ·have htt : t.data.toList = labTxt l1 (decs ps) := HT.out hb
    by_cases heq : labTxt l1 (decs ps) = s.data.toList
    ·have HF : Hid (readOk s.data.toList = true) := by unfold Hid; rw [HR0.out, hb]; simp [heq]
     have hq : (t.toList == s.toList) = true := by rw [Lib.toList_data, Lib.toList_data, htt, heq]; simp
     clear hb htt heq
     go_wp2_with fail
     go_ret3
     exact ⟨_, _, by rw [HF.out]; rfl, HB3.out, fun _ => by rw [HNAME.out]; rfl⟩
    ·have HF : Hid (readOk s.data.toList = false) := by unfold Hid; rw [HR0.out, hb]; simp [heq]
     have hq : (t.toList == s.toList) = false := by rw [Lib.toList_data, Lib.toList_data, htt]; simpa using heq
     clear hb htt heq
     go_wp2_with fail
     go_ret3
     exact ⟨.string ⟨#[]⟩, .slice none 0 0, by rw [HF.out]; rfl, HB3.out, fun h => by rw [HF.out] at h; cases h⟩

theorem IsLabel_any (s : ByteArray) (w : World) (hs : s.size ≤ 1048576) (g : Glob w) : Calls Tryz.prog 41 #[.string s] w fun e w' => e = .returned (.bool (readOk s.data.toList)) ∧ Below w.heap.size w w' := by
 have G := Lib.hid g
 clear g
 go_enter Tryz.func41, Tryz.ntmps41
 go_wp2_with fail
 refine (readLabel_any _ _ hs G.out).mono ?_
 rintro e w' ⟨n, v, rfl, hb, -⟩
 have HB := Lib.hid hb
 clear hb
 go_wp2_with fail
 go_ret
 exact ⟨rfl, HB.out⟩

end Go.Proofs.YtifoinannefcpaaGreatDoor

namespace Go.Proofs.YtifoinannefcpaaGreatDoor
open Go Go.RowKit

theorem digit_back {c : UInt8} (h : digit c = true) : UInt8.ofNat (48 + (c.toNat - 48)) = c := by
 unfold digit at h
 simp only [Bool.and_eq_true, decide_eq_true_eq] at h
 rw [show 48 + (c.toNat - 48) = c.toNat from by omega]
 exact UInt8.ofNat_toNat
theorem digit_lt {c : UInt8} (h : digit c = true) : c.toNat - 48 < 10 ∧ 48 ≤ c.toNat := by
 unfold digit at h
 simp only [Bool.and_eq_true, decide_eq_true_eq] at h
 omega
theorem decDigits_step (n d : Nat) (hn : 0 < n) (hd : d < 10) : Lib.decDigits (10 * n + d) = Lib.decDigits n ++ [UInt8.ofNat (48 + d)] := by
 rw [Lib.decDigits, dif_neg (by omega), show (10 * n + d) / 10 = n from by omega, show (10 * n + d) % 10 = d from by omega]
theorem decDigits_val : ∀ (l : List UInt8) (n : Nat), 0 < n → l.all digit = true → Lib.decDigits (valFrom n l) = Lib.decDigits n ++ l
 | [], n, _, _ => by rw [valFrom_nil, List.append_nil]
 | c :: r, n, hn, h => by
  simp only [List.all_cons, Bool.and_eq_true] at h
  rw [valFrom_cons, decDigits_val r _ (by omega) h.2, decDigits_step n _ hn (digit_lt h.1).1, digit_back h.1, List.append_assoc]
  rfl
theorem decDigits_le : ∀ (k u : Nat), 1 ≤ k → u < 10 ^ k → (Lib.decDigits u).length ≤ k
 | 0, _, h, _ => by omega
 | k + 1, u, _, h => by
  rw [Lib.decDigits]
  split
  ·simp
  ·have h1 : 1 ≤ k := by
    rcases Nat.eq_zero_or_pos k with h0 | h0
    ·subst h0; simp at h; omega
    ·exact h0
   have := decDigits_le k (u / 10) h1 (by rw [Nat.pow_succ] at h; omega)
   simp; omega
theorem digit_of {d : Nat} (h : d < 10) : digit (UInt8.ofNat (48 + d)) = true := by
 unfold digit
 have : (UInt8.ofNat (48 + d)).toNat = 48 + d := by rw [UInt8.toNat_ofNat']; omega
 rw [this]
 simp; omega
theorem decDigits_digit (u : Nat) : (Lib.decDigits u).all digit = true := by
 induction u using Nat.strongRecOn with
 | ind u ih =>
  rw [Lib.decDigits]
  split
  ·next h => rw [List.all_cons, digit_of h]; rfl
  ·next h => rw [List.all_append, ih (u / 10) (by omega), List.all_cons, digit_of (show u % 10 < 10 by omega)]; rfl
/-- The digits are those of their value, but for leading zeros. -/
theorem decDigits_back {ds : List UInt8} (h0 : ds ≠ []) (h : ds.all digit = true) : Lib.decDigits (valFrom 0 ds) = ds ↔ ¬ (ds.head? = some 48 ∧ 1 < ds.length) := by
 cases ds with
 | nil => exact absurd rfl h0
 | cons c r =>
  have ha := h
  simp only [List.all_cons, Bool.and_eq_true] at h
  by_cases hc : c = 48
  ·subst hc
   constructor
   ·rintro e ⟨-, hl⟩
    have h1 : valFrom 0 (48 :: r) = valFrom 0 r := by rw [valFrom_cons]; rfl
    have h2 := valFrom_lt r 0 h.2
    have h3 := decDigits_le r.length (valFrom 0 r) (by simp at hl; omega) (by omega)
    rw [h1] at e
    rw [e] at h3
    simp at h3; omega
   ·intro hn
    have : r = [] := by
     rcases r with _ | ⟨a, b⟩
     ·rfl
     ·exact absurd ⟨rfl, by simp⟩ hn
    subst this
    rw [valFrom_cons, valFrom_nil, Lib.decDigits_one (by decide)]
    rfl
  ·constructor
   ·rintro - ⟨e, -⟩
    simp at e
    exact hc e
   ·intro _
    have hd := digit_lt h.1
    have hpos : 0 < c.toNat - 48 := by
     have : c.toNat ≠ 48 := fun e => hc (UInt8.toNat_inj.1 e)
     omega
    rw [valFrom_cons, Nat.mul_zero, Nat.zero_add, decDigits_val r _ hpos h.2, Lib.decDigits_one hd.1, digit_back h.1]
    rfl

theorem digitVal_of {c : UInt8} (h : digit c = true) : Lib.digitVal c = some (c.toNat - 48) := by
 unfold digit at h
 simp only [Bool.and_eq_true, decide_eq_true_eq] at h
 unfold Lib.digitVal
 rw [if_pos (by omega)]
theorem digitVal_not {c : UInt8} (h : digit c = false) : Lib.digitVal c = none := by
 unfold digit at h
 simp only [Bool.and_eq_false_iff, decide_eq_false_iff_not] at h
 unfold Lib.digitVal
 rw [if_neg (by omega)]
theorem decFrom_eq : ∀ (l : List UInt8) (n : Nat), Lib.decFrom n l = if l.all digit then some (valFrom n l) else none
 | [], n => by simp [Lib.decFrom, valFrom_nil]
 | c :: r, n => by
  unfold Lib.decFrom
  cases hc : digit c with
  | true => rw [digitVal_of hc]; simp only; rw [decFrom_eq r, valFrom_cons, Nat.mul_comm]; simp [hc]
  | false => rw [digitVal_not hc]; simp [hc]
theorem decNat_eq (l : List UInt8) : Lib.decNat l = if l ≠ [] ∧ l.all digit = true then some (valFrom 0 l) else none := by
 unfold Lib.decNat
 cases l with
 | nil => rfl
 | cons c r => rw [decFrom_eq]; simp

theorem numDs_eq (neg : Bool) (ds : List UInt8) (h : ds.length ≤ 18) : numDs neg ds = (Lib.decNat ds).bind fun m => if Lib.decDigits m = ds ∧ ¬ (neg = true ∧ m = 0) then some (if neg then -(m : Int) else m) else none := by
 rw [decNat_eq]
 unfold numDs
 by_cases hq : ds ≠ [] ∧ ds.all digit = true
 ·obtain ⟨h0, ha⟩ := hq
  have hd : (if ds ≠ [] ∧ ds.all digit = true then some (valFrom 0 ds) else none) = some (valFrom 0 ds) := if_pos ⟨h0, ha⟩
  rw [hd, Option.bind_some]
  have hb := decDigits_back h0 ha
  have hl : ds.length ≠ 0 := fun e => h0 (List.eq_nil_of_length_eq_zero e)
  by_cases hz : ds.head? = some 48
  ·by_cases hl1 : 1 < ds.length
   ·rw [if_pos (.inr (.inr (.inl ⟨hz, .inr hl1⟩))), if_neg (fun hh => (hb.1 hh.1) ⟨hz, hl1⟩)]
   ·have e : ds = [48] := by
     cases ds with
     | nil => exact absurd rfl h0
     | cons c r =>
      have : r = [] := List.eq_nil_of_length_eq_zero (by rw [List.length_cons] at hl1; omega)
      subst this
      simp at hz
      rw [hz]
    subst e
    have hv : valFrom 0 [48] = 0 := by rw [valFrom_cons, valFrom_nil]; rfl
    have hw : Lib.decDigits 0 = [48] := by rw [Lib.decDigits_one (by decide)]; rfl
    cases neg
    ·rw [hv]
     have hc : Lib.decDigits 0 = [48] ∧ ¬ (false = true ∧ (0 : Nat) = 0) := ⟨hw, by simp⟩
     exact (if_neg (by decide)).trans (if_pos hc).symm
    ·rw [hv]
     have hc : ¬ (Lib.decDigits 0 = [48] ∧ ¬ (true = true ∧ (0 : Nat) = 0)) := by simp
     exact (if_pos (.inr (.inr (.inl ⟨rfl, .inl rfl⟩)))).trans (if_neg hc).symm
  ·have hm : valFrom 0 ds ≠ 0 := by
    intro e
    have h1 := hb.2 (fun h => hz h.1)
    rw [e, Lib.decDigits_one (by decide)] at h1
    exact hz (by rw [← h1]; rfl)
   have hc0 : ¬ (ds.length = 0 ∨ 18 < ds.length ∨ (ds.head? = some 48 ∧ (neg = true ∨ 1 < ds.length)) ∨ ds.all digit = false) := by rw [ha]; simp [hl, hz]; omega
   have hc1 : Lib.decDigits (valFrom 0 ds) = ds ∧ ¬ (neg = true ∧ valFrom 0 ds = 0) := ⟨hb.2 (fun h => hz h.1), fun h => hm h.2⟩
   exact (if_neg hc0).trans (if_pos hc1).symm
 ·have hd : (if ds ≠ [] ∧ ds.all digit = true then some (valFrom 0 ds) else none) = none := if_neg hq
  rw [hd]
  simp only [Option.bind_none, ite_eq_left_iff]
  intro hn
  exfalso
  apply hn
  by_cases h0 : ds = []
  ·subst h0; exact .inl rfl
  ·refine .inr (.inr (.inr ?_))
   cases h : ds.all digit
   ·rfl
   ·exact absurd ⟨h0, h⟩ hq

theorem itoa_eq (m : Nat) : Lib.itoa (m : Int) = Lib.decDigits m := by unfold Lib.itoa; rw [if_neg (by omega)]; simp
theorem itoa_neg' (m : Nat) (h : 0 < m) : Lib.itoa (-(m : Int)) = 45 :: Lib.decDigits m := by unfold Lib.itoa; rw [if_pos (by omega)]; simp
theorem decDigits_head (u : Nat) (c : UInt8) (hc : digit c = false) (r : List UInt8) : Lib.decDigits u ≠ c :: r := by
 intro e
 have := decDigits_digit u
 rw [e] at this
 simp [hc] at this

/-- ReadDecimal reads what the plain definition reads. -/
theorem readDec_eq (l : List UInt8) : readDec l = numB l := by
 unfold readDec numB
 rw [Lib.parseIntB_64]
 cases l with
 | nil => rfl
 | cons c r =>
  by_cases h45 : c = 45
  ·subst h45
   have ht : Lib.trimPrefix (45 :: r) [45] = r := by simp [Lib.trimPrefix, Lib.hasPrefix]
   rw [ht, List.head?_cons, if_pos rfl, List.tail_cons]
   by_cases hl : 18 < r.length
   ·rw [if_pos hl]
    unfold numDs
    rw [if_pos (.inr (.inl hl))]
   ·rw [if_neg hl, Lib.atoiAll_minus, Lib.signed_short (by omega), numDs_eq true r (by omega)]
    cases hd : Lib.decNat r with
    | none => rfl
    | some m =>
     simp only [Option.map_some, Lib.NumEnd.ofOption, Option.bind_some, if_true]
     by_cases h0 : m = 0
     ·subst h0
      have e : Lib.itoa (-((0 : Nat) : Int)) ≠ 45 :: r := by
       have e1 : Lib.itoa (-((0 : Nat) : Int)) = [48] := by
        rw [show (-((0 : Nat) : Int)) = ((0 : Nat) : Int) from rfl, itoa_eq, Lib.decDigits_one (by decide)]; rfl
       rw [e1]
       intro h
       have := (List.cons.inj h).1
       revert this
       decide
      rw [if_neg e, if_neg (by simp)]
     ·rw [itoa_neg' m (by omega)]
      simp [h0]
  ·have ht : Lib.trimPrefix (c :: r) [45] = c :: r := by
    have : ([45] : List UInt8).isPrefixOf (c :: r) = false := by
     show ((45 : UInt8) == c && ([] : List UInt8).isPrefixOf r) = false
     rw [beq_eq_false_iff_ne.2 (fun e => h45 e.symm), Bool.false_and]
    unfold Lib.trimPrefix Lib.hasPrefix
    rw [this]
    rfl
   have hc : ¬ (some c = some (45 : UInt8)) := fun e => h45 (Option.some.inj e)
   rw [ht, List.head?_cons, show (if some c = some (45 : UInt8) then numDs true (c :: r).tail else numDs false (c :: r)) = numDs false (c :: r) from if_neg hc]
   by_cases hl : 18 < (c :: r).length
   ·rw [if_pos hl]
    unfold numDs
    rw [if_pos (.inr (.inl hl))]
   ·rw [if_neg hl, numDs_eq false _ (by omega)]
    by_cases h43 : c = 43
    ·subst h43
     have h1 : Lib.decNat (43 :: r) = none := by rw [decNat_eq, if_neg (by simp [digit])]
     rw [h1, Lib.atoiAll_plus, Lib.signless_short (by simp at hl; omega)]
     cases hd : Lib.decNat r with
     | none => rfl
     | some m =>
      simp only [Option.map_some, Lib.NumEnd.ofOption, Option.bind_none]
      rw [itoa_eq, if_neg (decDigits_head m 43 (by decide) r)]
    ·rw [Lib.atoiAll_plain c r (fun e => h43 (UInt8.toNat_inj.1 e)) (fun e => h45 (UInt8.toNat_inj.1 e)), Lib.signless_short (by omega)]
     cases hd : Lib.decNat (c :: r) with
     | none => rfl
     | some m =>
      simp only [Option.map_some, Lib.NumEnd.ofOption, Option.bind_some]
      rw [itoa_eq]
      simp

end Go.Proofs.YtifoinannefcpaaGreatDoor

namespace Go.Proofs.YtifoinannefcpaaGreatDoor
open Go Go.RowKit

theorem hasSuffix_one (l : List UInt8) (c : UInt8) : Lib.hasSuffix l [c] = (l.getLast? == some c) := by
 unfold Lib.hasSuffix List.isSuffixOf
 rw [← List.head?_reverse]
 cases l.reverse with
 | nil => rfl
 | cons a r =>
  show (c == a && true) = (some a == some c)
  rw [Bool.and_true]
  by_cases h : a = c
  ·subst h; simp
  ·rw [beq_eq_false_iff_ne.2 (fun e => h e.symm), beq_eq_false_iff_ne.2 (fun e => h (by simpa using e))]

theorem indexByte_find (c : UInt8) : ∀ l : List UInt8, Lib.indexByte l c = if l.findIdx (fun x => x == c) < l.length then ((l.findIdx (fun x => x == c) : Nat) : Int) else -1
 | [] => rfl
 | x :: r => by
  unfold Lib.indexByte
  rw [indexByte_find c r, List.findIdx_cons]
  obtain ⟨n, hn⟩ : ∃ n, n = r.findIdx (fun x => x == c) := ⟨_, rfl⟩
  rw [← hn]
  cases hx : (x == c)
  ·simp only [Bool.false_eq_true, if_false, cond_false, List.length_cons]
   by_cases h : n < r.length
   ·have h1 : n + 1 < r.length + 1 := by omega
    have h2 : ((n : Int) == -1) = false := by rw [beq_eq_false_iff_ne]; omega
    simp only [h, h1, h2, if_true, Bool.false_eq_true, if_false]
    omega
   ·have h1 : ¬ n + 1 < r.length + 1 := by omega
    simp only [h, h1, if_false, beq_self_eq_true, if_true]
  ·simp

theorem index_find (c : UInt8) (l : List UInt8) : Lib.index l [c] = if l.findIdx (fun x => x == c) < l.length then ((l.findIdx (fun x => x == c) : Nat) : Int) else -1 := by
 rw [Lib.index_one, indexByte_find]

theorem splitK_eq (c : UInt8) : ∀ (k : Nat) (l : List UInt8), Lib.count l [c] = k → Lib.splitK [c] 0 k l = splitAt c l := by
 intro k
 induction k with
 | zero =>
  intro l hk
  by_cases h : l.findIdx (fun x => x == c) < l.length
  ·have := Lib.count_hit (s := l) (sub := [c]) (i := l.findIdx (fun x => x == c)) (by simp) (by rw [index_find, if_pos h])
   omega
  ·rw [splitAt_none (List.findIdx_eq_length.1 (Nat.le_antisymm List.findIdx_le_length (by omega)))]
   rfl
 | succ k ih =>
  intro l hk
  by_cases h : l.findIdx (fun x => x == c) < l.length
  ·have hi := Lib.count_hit (s := l) (sub := [c]) (i := l.findIdx (fun x => x == c)) (by simp) (by rw [index_find, if_pos h])
   have hs := split_step (c := c) (l := l) (m := 0) (k := l.findIdx (fun x => x == c)) (Nat.zero_le _) h (fun j hj _ hlt => by simpa using List.not_of_lt_findIdx hlt) (List.findIdx_getElem (w := h))
   rw [List.drop_zero, Nat.sub_zero] at hs
   rw [hs]
   unfold Lib.splitK
   rw [index_find, if_pos h, if_neg (by rw [beq_iff_eq]; omega)]
   simp only [Int.toNat_natCast, Nat.add_zero, List.length_singleton]
   rw [ih _ (by simp only [List.length_singleton] at hi; omega)]
  ·rw [Lib.count_miss (by rw [index_find, if_neg h])] at hk
   omega

theorem join_splitAt (c : UInt8) : ∀ l : List UInt8, Lib.join (splitAt c l) [c] = l
 | [] => by simp [splitAt, Lib.join_one]
 | x :: r => by
  have ih := join_splitAt c r
  unfold splitAt
  cases hs : splitAt c r with
  | nil => exact absurd hs (splitAt_ne c r)
  | cons p ps =>
   rw [hs, Lib.join_cons] at ih
   simp only
   split
   ·next h =>
    rw [Lib.join_cons, Lib.joinTail, List.map_cons, List.flatten_cons, ← Lib.joinTail]
    rw [beq_iff_eq.1 h, ← ih]
    simp
   ·rw [Lib.join_cons, ← ih]; simp

theorem partsB_eq (rest : List UInt8) : (partsB rest).map (fun s => s.data.toList) = splitAt 44 (Lib.trimSuffix rest [41]) := by
 unfold partsB
 rw [Lib.splitB_data]
 exact splitK_eq 44 _ _ rfl

theorem numB_itoa {l : List UInt8} {n : Int} (h : numB l = some n) : Lib.itoa n = l := by
 rw [← readDec_eq] at h
 unfold readDec at h
 split at h
 ·cases h
 ·split at h
  ·split at h
   ·next he => cases h; exact he
   ·cases h
  ·cases h

theorem decs_eq (ss : List ByteArray) : decs ss = (ss.map (fun s => s.data.toList)).map fun p => (numB p).getD 0 := by
 unfold decs
 rw [List.map_map]
 exact List.map_congr_left fun s _ => by simp [readDec_eq]
theorem decsOk_eq (ss : List ByteArray) : decsOk ss = (ss.map (fun s => s.data.toList)).all fun p => (numB p).isSome := by
 unfold decsOk
 rw [List.all_map]
 congr 1
 funext s
 simp [readDec_eq]

theorem words_join {ps : List (List UInt8)} (h : (ps.all fun p => (numB p).isSome) = true) : (wordsOf (ps.map fun p => (numB p).getD 0)).map (·.data.toList) = ps := by
 unfold wordsOf
 rw [List.map_map, List.map_map]
 conv => rhs; rw [← List.map_id ps]
 refine List.map_congr_left fun p hp => ?_
 have h1 := List.all_eq_true.1 h p hp
 obtain ⟨n, hn⟩ := Option.isSome_iff_exists.1 h1
 simp [hn, numB_itoa hn]

theorem numOk_eq (p : List UInt8) : numOk p = ((numB p).isSome && isVal ((numB p).getD 0)) := by
 unfold numOk isVal
 cases numB p <;> simp

theorem all_numOk (ps : List (List UInt8)) : ps.all numOk = ((ps.all fun p => (numB p).isSome) && (ps.map fun p => (numB p).getD 0).all isVal) := by
 induction ps with
 | nil => rfl
 | cons p r ih =>
  simp only [List.all_cons, List.map_cons, ih, numOk_eq]
  cases (numB p).isSome <;> simp [Bool.and_left_comm]

theorem cut_eq (l : List UInt8) : Lib.cut l [40] = if openAt l < l.length then (l.take (openAt l), l.drop (openAt l + 1), true) else (l, [], false) := by
 unfold Lib.cut
 rw [index_find]
 unfold openAt
 by_cases h : l.findIdx (fun x => x == 40) < l.length
 ·rw [if_pos h, if_pos (by omega), if_pos h]
  simp
 ·rw [if_neg h, if_neg (by omega), if_neg h]

theorem isAction_tau : isAction tauL = false := by decide

/-- What the implementation says of a label is what the plain definition says. -/
theorem readOk_eq (l : List UInt8) : readOk l = labelOk l := by
 unfold readOk labelOk
 rw [cut_eq]
 have hle := openAt_le l
 by_cases h : openAt l < l.length
 ·rw [if_pos h, if_neg (show ¬ openAt l = l.length by omega)]
  simp only [if_true]
  have hget := openAt_get h
  have hl : l.take (openAt l) ++ 40 :: l.drop (openAt l + 1) = l := by
   rw [← hget, ← List.drop_eq_getElem_cons h, List.take_append_drop]
  rw [decs_eq, decsOk_eq, partsB_eq]
  obtain ⟨name, hname⟩ : ∃ x, x = l.take (openAt l) := ⟨_, rfl⟩
  obtain ⟨rest, hrest⟩ : ∃ x, x = l.drop (openAt l + 1) := ⟨_, rfl⟩
  have hrl : rest.length = l.length - 1 - openAt l := by rw [hrest, List.length_drop]; omega
  have hlast : l.getLast? = if rest = [] then some 40 else rest.getLast? := by
   conv => lhs; rw [← hl, ← hrest]
   rw [List.getLast?_append]
   cases rest with
   | nil => rfl
   | cons a r => simp [List.getLast?_cons]
  rw [← hname, ← hrest]
  rw [← hname, ← hrest] at hl
  obtain ⟨Q, hQ⟩ : ∃ Q, Q = splitAt 44 (Lib.trimSuffix rest [41]) := ⟨_, rfl⟩
  have hQne : Q ≠ [] := by rw [hQ]; exact splitAt_ne _ _
  rw [← hQ]
  by_cases h41 : l.getLast? = some 41
  ·have hr41 : rest.getLast? = some 41 := by
    rw [hlast] at h41
    split at h41
    ·cases h41
    ·exact h41
   have htrim : Lib.trimSuffix rest [41] = rest.take (rest.length - 1) := by
    unfold Lib.trimSuffix
    rw [hasSuffix_one, hr41, if_pos (by rfl)]
    rfl
   have hback : Lib.trimSuffix rest [41] ++ [41] = rest := by
    rw [htrim]
    have hne : rest ≠ [] := fun e => by rw [e] at hr41; cases hr41
    rw [← List.dropLast_eq_take]
    have : rest.getLast hne = 41 := by rw [List.getLast?_eq_some_getLast hne] at hr41; simpa using hr41
    have h9 := List.dropLast_concat_getLast hne
    rw [this] at h9
    exact h9
   have hparts : labelParts l = Q := by
    unfold labelParts
    rw [← hrest, hQ, htrim, hrl]
    congr 2
   rw [hparts, h41, all_numOk]
   cases hok : (Q.all fun p => (numB p).isSome) with
   | false => simp
   | true =>
    have htxt : labTxt name (Q.map fun p => (numB p).getD 0) = l := by
     unfold labTxt
     rw [words_join hok, if_neg (by simpa using hQne), hQ, join_splitAt, hback, hl]
    rw [htxt]
    unfold labB
    by_cases hn : name = tauL
    ·rw [if_pos hn, hn, isAction_tau]
     have : (Q.map fun p => (numB p).getD 0).isEmpty = false := by simpa using hQne
     rw [this]; simp
    ·rw [if_neg hn]
     simp only [List.length_map]
     cases isAction name <;> cases ((Q.map fun p => (numB p).getD 0).all isVal) <;> simp
  ·have h41' : (l.getLast? == some 41) = false := by simpa using h41
   rw [h41']
   simp only [Bool.false_and, Bool.and_false]
   cases hok : (Q.all fun p => (numB p).isSome) with
   | false => simp
   | true =>
    have hr41 : rest.getLast? ≠ some 41 := by
     intro e
     apply h41
     rw [hlast, if_neg (fun e2 => by rw [e2] at e; cases e)]
     exact e
    have htrim : Lib.trimSuffix rest [41] = rest := by
     unfold Lib.trimSuffix
     rw [hasSuffix_one, if_neg (by simpa using hr41)]
    have htxt : labTxt name (Q.map fun p => (numB p).getD 0) ≠ l := by
     unfold labTxt
     rw [words_join hok, if_neg (by simpa using hQne), hQ, join_splitAt, htrim]
     intro e
     have := congrArg List.length e
     rw [← hl] at this
     simp at this
    rw [decide_eq_false htxt]
    simp
 ·have he : openAt l = l.length := by omega
  rw [if_neg h, if_pos he]
  simp only [Bool.false_eq_true, if_false, decide_true, Bool.and_true]
  unfold labB
  by_cases ht : l = tauL
  ·rw [if_pos ht, ht]; rfl
  ·rw [if_neg ht]
   unfold isAction
   have : (l == tauL) = false := by simpa using ht
   rw [this]
   simp

end Go.Proofs.YtifoinannefcpaaGreatDoor
