/-
  What the implementation's readLabel and IsLabel compute.
-/
import Derived.Test.YtkffdamgekoifaaGreatDoorImpl6
import Derived.Lib.SplitLaws
import Derived.OwnWalk
namespace Go.Proofs.YtkffdamgekoifaaGreatDoor
open Go Go.RowKit

/-- The parts that readLabel reads. -/
def partsB (rest : List UInt8) : List ByteArray := Lib.splitB ⟨#[44]⟩ 0 (Lib.countB ⟨(Lib.trimSuffix rest [41]).toArray⟩ ⟨#[44]⟩) ⟨(Lib.trimSuffix rest [41]).toArray⟩
def readOk (l : List UInt8) : Bool :=
  if (Lib.cut l [40]).2.2 = true then
    decsOk (partsB (Lib.cut l [40]).2.1) && labB (Lib.cut l [40]).1 (decs (partsB (Lib.cut l [40]).2.1)) && decide (labTxt (Lib.cut l [40]).1 (decs (partsB (Lib.cut l [40]).2.1)) = l)
  else labB (Lib.cut l [40]).1 [] && decide ((Lib.cut l [40]).1 = l)
def RetRead (l : List UInt8) (w : World) (e : Ending) (w' : World) : Prop := ∃ n v, e = .returned (.tuple #[n, v, .bool (readOk l)]) ∧ Below w.heap.size w w' ∧ (readOk l = true → n = .string ⟨(Lib.cut l [40]).1.toArray⟩)

theorem splitB_mem (sep : ByteArray) : ∀ (k : Nat) (s p : ByteArray), p ∈ Lib.splitB sep 0 k s → p.size ≤ s.size
  | 0, s, p, h => by simp [Lib.splitB] at h; subst h; exact Nat.le_refl _
  | k + 1, s, p, h => by
    unfold Lib.splitB at h
    split at h
    · simp at h; subst h; exact Nat.le_refl _
    · rcases List.mem_cons.1 h with rfl | h
      · rw [ByteArray.size_extract]; omega
      · have := splitB_mem sep k _ p h
        rw [ByteArray.size_extract] at this; omega

theorem cut_size (l : List UInt8) : (Lib.cut l [40]).1.length ≤ l.length ∧ (Lib.cut l [40]).2.1.length ≤ l.length := by
  unfold Lib.cut
  split
  · simp; omega
  · simp

set_option maxRecDepth 100000 in
set_option maxHeartbeats 1000000 in
theorem readLabel_any (s : ByteArray) (w : World) (hs : s.size ≤ 1048576) (g : Glob w) : Calls Tryz.prog 76 #[.string s] w (RetRead s.data.toList w) := by
  have G := Lib.hid g
  obtain ⟨m, hm⟩ := g.max
  have HM := Lib.hid hm
  clear g hm
  have hz := cut_size s.data.toList
  rw [len_data] at hz
  obtain ⟨l1, hl1⟩ : ∃ l1, (Lib.cut s.data.toList [40]).1 = l1 := ⟨_, rfl⟩
  obtain ⟨l2, hl2⟩ : ∃ l2, (Lib.cut s.data.toList [40]).2.1 = l2 := ⟨_, rfl⟩
  rw [hl1, hl2] at hz
  have HNAME := Lib.hid hl1
  have HR0 : Hid (readOk s.data.toList = if (Lib.cut s.data.toList [40]).2.2 = true then decsOk (partsB l2) && labB l1 (decs (partsB l2)) && decide (labTxt l1 (decs (partsB l2)) = s.data.toList) else labB l1 [] && decide (l1 = s.data.toList)) := by
    unfold Hid readOk
    rw [hl1, hl2]
  have HCUT : Hid (Calls Tryz.prog 84 #[.string s, .string ⟨#[40]⟩] w fun e w' => e = .returned (.tuple #[.string ⟨l1.toArray⟩, .string ⟨l2.toArray⟩, .bool (Lib.cut s.data.toList [40]).2.2]) ∧ ∃ n, w' = w.drewN n) := by
    have := Tryz.strings_Cut s ⟨#[40]⟩ m w (by omega) HM.out
    unfold Hid
    rw [← hl1, ← hl2]
    exact this
  have hz1 : (⟨l1.toArray⟩ : ByteArray).size ≤ 1073741824 := by rw [Lib.size_eq]; simp; omega
  clear hl1 hl2
  cases hmore : (Lib.cut s.data.toList [40]).2.2
  · rw [hmore] at HCUT HR0
    have HN0 : Hid (SliceK 1 encI 0 w (.slice none 0 0) []) := ⟨none, 0, rfl, by simp, by simp, .inl rfl⟩
    go_enter Tryz.func76, Tryz.ntmps76
    go_wp2_with fail
    refine Calls.mono HCUT.out ?_
    rintro e w1 ⟨rfl, k, rfl⟩
    have HB0 : Hid (Below w.heap.size w (w.drewN k)) := below_drewN (Below.refl _ _) k
    go_wp2_with fail
    refine (labelOf_any (.slice none 0 0) ⟨l1.toArray⟩ 0 [] _ hz1 (by simp) (HN0.out.below HB0.out) (G.out.below HB0.out)).mono ?_
    rintro e w2 ⟨t, rfl, hb2, ht⟩
    have HB2 := Lib.hid (HB0.out.trans (hb2.mono HB0.out.size))
    have HT := Lib.hid ht
    clear hb2 ht
    change Hid (labB l1 [] = true → t.data.toList = labTxt l1 []) at HT
    show _
    obtain ⟨b, hb⟩ : ∃ b, labB l1 [] = b := ⟨_, rfl⟩
    rw [show labB (⟨l1.toArray⟩ : ByteArray).data.toList [] = b from hb]
    cases b
    · have HF : Hid (readOk s.data.toList = false) := by unfold Hid; rw [HR0.out, hb]; simp
      clear hb
      go_wp2_with fail
      go_ret3
      exact ⟨.string ⟨#[]⟩, .slice none 0 0, by rw [HF.out]; rfl, HB2.out, fun h => by rw [HF.out] at h; cases h⟩
    · have htt : t.data.toList = l1 := HT.out hb
      by_cases heq : l1 = s.data.toList
      · have HEQ := Lib.hid heq
        have HF : Hid (readOk s.data.toList = true) := by unfold Hid; rw [HR0.out, hb]; simp [heq]
        have hq : (t.toList == s.toList) = true := by rw [Lib.toList_data, Lib.toList_data, htt, heq]; simp
        clear hb htt
        go_wp2_with fail
        go_ret3
        exact ⟨_, _, by rw [HF.out]; rfl, HB2.out, fun _ => by rw [HNAME.out, HEQ.out]; rfl⟩
      · have HF : Hid (readOk s.data.toList = false) := by unfold Hid; rw [HR0.out, hb]; simp [heq]
        have hq : (t.toList == s.toList) = false := by rw [Lib.toList_data, Lib.toList_data, htt]; simpa using heq
        clear hb htt heq
        go_wp2_with fail
        go_ret3
        exact ⟨.string ⟨#[]⟩, .slice none 0 0, by rw [HF.out]; rfl, HB2.out, fun h => by rw [HF.out] at h; cases h⟩
  · rw [hmore] at HCUT HR0
    obtain ⟨r, hr⟩ : ∃ r : ByteArray, r = ⟨(Lib.trimSuffix l2 [41]).toArray⟩ := ⟨_, rfl⟩
    have hrz : r.size ≤ 1073741824 := by
      rw [hr, Lib.size_eq]
      show (Lib.trimSuffix l2 [41]).length ≤ _
      unfold Lib.trimSuffix
      split
      · rw [List.length_take]; omega
      · omega
    obtain ⟨ps, hps⟩ : ∃ ps, ps = partsB l2 := ⟨_, rfl⟩
    have hps' : Lib.splitB ⟨#[44]⟩ 0 (Lib.countB r ⟨#[44]⟩) r = ps := by rw [hps, hr]; rfl
    have hpl : ps.length = Lib.countB r ⟨#[44]⟩ + 1 := by rw [← hps']; exact Lib.splitB_all _ (by decide) 0 _ _ rfl
    rw [← hps] at HR0
    have hl2z : (⟨l2.toArray⟩ : ByteArray).size ≤ 9223372036854775807 := by rw [Lib.size_eq]; simp; omega
    have HTS : Hid (∀ w', Calls Tryz.prog 87 #[.string ⟨l2.toArray⟩, .string ⟨#[41]⟩] w' fun e w2 => e = .returned (.string r) ∧ w2 = w') := by
      intro w'
      rw [hr]
      exact Tryz.strings_TrimSuffix ⟨l2.toArray⟩ ⟨#[41]⟩ w' hl2z
    have HSP : Hid (∀ w', w'.cell? ⟨0, 0, none⟩ = some (.int .i64 m) → Calls Tryz.prog 86 #[.string r, .string ⟨#[44]⟩] w' fun e w2 => e = .returned (.slice (some ⟨w'.heap.size, 0, none⟩) ps.length ps.length) ∧ w2 = w'.alloc (.cells (ps.map Value.string).toArray 9)) := by
      intro w' hw
      rw [hpl, ← hps']
      exact Tryz.strings_Split r ⟨#[44]⟩ m w' (by omega) hw (by decide)
    have HPZ : Hid (∀ i (h : i < ps.length), ps[i].size ≤ 1073741824) := by
      intro i hi
      have h1 : ps[i] ∈ Lib.splitB ⟨#[44]⟩ 0 (Lib.countB r ⟨#[44]⟩) r := by rw [hps']; exact List.getElem_mem _
      exact Nat.le_trans (splitB_mem _ _ _ _ h1) hrz
    have hrz2 : r.size ≤ 1048576 := by
      rw [hr, Lib.size_eq]
      show (Lib.trimSuffix l2 [41]).length ≤ _
      unfold Lib.trimSuffix
      split
      · rw [List.length_take]; omega
      · omega
    have hplen : ps.length ≤ 1048577 := by
      have := Lib.countB_le ⟨#[44]⟩ (by decide) _ r (Nat.le_refl _)
      omega
    clear hrz2
    clear hps hps' hpl hr hl2z hrz hz
    go_enter Tryz.func76, Tryz.ntmps76
    go_wp2_with fail
    refine Calls.mono HCUT.out ?_
    rintro e w1 ⟨rfl, k, rfl⟩
    have HB0 : Hid (Below w.heap.size w (w.drewN k)) := below_drewN (Below.refl _ _) k
    go_wp2_with fail
    refine Calls.mono (HTS.out _) ?_
    rintro e w1 ⟨rfl, rfl⟩
    go_wp2_with fail
    refine Calls.mono (HSP.out _ (keeps HB0.out (World.block_lt_of_cell? w _ HM.out) HM.out)) ?_
    rintro e w1 ⟨rfl, hw1⟩
    have HB1 : Hid (Below w.heap.size w w1) := by
      unfold Hid
      rw [hw1]
      exact HB0.out.alloc HB0.out.size _
    have HPS : Hid (SliceK 1 encS 0 w1 (.slice (some ⟨(w.drewN k).heap.size, 0, none⟩) ps.length ps.length) ps) := by
      have := World.ownsRow_lit (base := 0) (e := 9) (size := 1) (w.drewN k) (ps.map Value.string).toArray ps.length (Nat.zero_le _) (by simp [maxLen]; omega) (by simp)
      rw [← hw1] at this
      exact SliceK.of_owns (e := 9) encS_len rfl (by rw [flat_encS]; simpa using this)
    clear hw1
    go_wp2_with fail
    refine (readNumbers_any 0 _ ps _ HPZ.out (by omega) HPS.out (G.out.below HB1.out)).mono ?_
    rintro e w2 ⟨v, rfl, hb2, ho2⟩
    have HB2 := Lib.hid (HB1.out.trans (hb2.mono HB1.out.size))
    have HO2 := Lib.hid ho2
    clear hb2 ho2
    cases hok : decsOk ps
    · have HF : Hid (readOk s.data.toList = false) := by unfold Hid; rw [HR0.out, hok]; simp
      clear hok
      go_wp2_with fail
      go_ret3
      exact ⟨.string ⟨#[]⟩, .slice none 0 0, by rw [HF.out]; rfl, HB2.out, fun h => by rw [HF.out] at h; cases h⟩
    · have HNS : Hid (SliceK 1 encI 0 w2 v (decs ps)) := SliceK.of_owns (e := 2) encI_len rfl (by rw [flat_encI]; exact own_lower (HO2.out hok) (Nat.zero_le _))
      have hdl : (decs ps).length ≤ 1048577 := by simpa [decs] using hplen
      rw [hok] at HR0
      clear hok HO2
      go_wp2_with fail
      refine (labelOf_any v ⟨l1.toArray⟩ 0 (decs ps) _ hz1 (by omega) HNS.out (G.out.below HB2.out)).mono ?_
      rintro e w3 ⟨t, rfl, hb3, ht⟩
      have HB3 := Lib.hid (HB2.out.trans (hb3.mono HB2.out.size))
      have HT := Lib.hid ht
      clear hb3 ht
      change Hid (labB l1 (decs ps) = true → t.data.toList = labTxt l1 (decs ps)) at HT
      obtain ⟨b, hb⟩ : ∃ b, labB l1 (decs ps) = b := ⟨_, rfl⟩
      rw [show labB (⟨l1.toArray⟩ : ByteArray).data.toList (decs ps) = b from hb]
      cases b
      · have HF : Hid (readOk s.data.toList = false) := by unfold Hid; rw [HR0.out, hb]; simp
        clear hb
        go_wp2_with fail
        go_ret3
        exact ⟨.string ⟨#[]⟩, .slice none 0 0, by rw [HF.out]; rfl, HB3.out, fun h => by rw [HF.out] at h; cases h⟩
      · have htt : t.data.toList = labTxt l1 (decs ps) := HT.out hb
        by_cases heq : labTxt l1 (decs ps) = s.data.toList
        · have HF : Hid (readOk s.data.toList = true) := by unfold Hid; rw [HR0.out, hb]; simp [heq]
          have hq : (t.toList == s.toList) = true := by rw [Lib.toList_data, Lib.toList_data, htt, heq]; simp
          clear hb htt heq
          go_wp2_with fail
          go_ret3
          exact ⟨_, _, by rw [HF.out]; rfl, HB3.out, fun _ => by rw [HNAME.out]; rfl⟩
        · have HF : Hid (readOk s.data.toList = false) := by unfold Hid; rw [HR0.out, hb]; simp [heq]
          have hq : (t.toList == s.toList) = false := by rw [Lib.toList_data, Lib.toList_data, htt]; simpa using heq
          clear hb htt heq
          go_wp2_with fail
          go_ret3
          exact ⟨.string ⟨#[]⟩, .slice none 0 0, by rw [HF.out]; rfl, HB3.out, fun h => by rw [HF.out] at h; cases h⟩

theorem IsLabel_any (s : ByteArray) (w : World) (hs : s.size ≤ 1048576) (g : Glob w) : Calls Tryz.prog 71 #[.string s] w fun e w' => e = .returned (.bool (readOk s.data.toList)) ∧ Below w.heap.size w w' := by
  have G := Lib.hid g
  clear g
  go_enter Tryz.func71, Tryz.ntmps71
  go_wp2_with fail
  refine (readLabel_any _ _ hs G.out).mono ?_
  rintro e w' ⟨n, v, rfl, hb, -⟩
  have HB := Lib.hid hb
  clear hb
  go_wp2_with fail
  go_ret
  exact ⟨rfl, HB.out⟩

end Go.Proofs.YtkffdamgekoifaaGreatDoor
