/-
  For all arguments the law FnQuiescence answers true.
-/
import Derived.Test.YtnmkncioekdehaaGreatDoorY17
import Derived.Test.YtnmkncioekdehaaGreatDoorY18
import Derived.Test.YtnmkncioekdehaaGreatDoorY20
namespace Go.Proofs.YtnmkncioekdehaaGreatDoor
open Go Go.RowKit


theorem nums_has {t : Lts} {ins : List ByteArray} (h : IfOk t ins) {k : Int} (h0 : 0 ≤ k) (h1 : k < t.states) : (followL (susT t ins) [k] deltaT == [k]) = (quiets t ins).contains k := by
 rw [delta_from h h0 h1]
 cases hq : quietB t ins k with
 | true =>
  rw [if_pos rfl]
  have : k ∈ quiets t ins := quiets_mem.2 ⟨⟨h0, by have := h.valid.st0; omega⟩, hq⟩
  simp [this]
 | false =>
  rw [if_neg (by simp)]
  have : k ∉ quiets t ins := fun hm => by rw [(quiets_mem.1 hm).2] at hq; cases hq
  simp [this]

theorem sus_short {t : Lts} (ins : List ByteArray) (h : Short20 t.labels) : Short20 (susT t ins).labels := fun i hi => by
 have hm : (susT t ins).labels[i] ∈ susL t := List.getElem_mem hi
 rcases (susL_mem _).1 hm with e | e | e
 ·rw [e]; decide
 ·obtain ⟨j, hj, hje⟩ := List.mem_iff_getElem.1 e
  rw [← hje]
  exact h j hj
 ·rw [e]; decide

set_option maxRecDepth 100000 in
set_option maxHeartbeats 4000000 in
theorem lawQuiescence (a0 : Option Addr) (N c0 : Nat) (bs : List UInt8) (w : World) (hN : N = bs.length) (hc : N ≤ 1048576 → BytesIn w.heap.size w (.slice a0 N c0) bs) (g : Glob w) :
  Calls Tryz.prog 3 #[.slice a0 N c0] w fun e w' => e = .returned (.bool true) ∧ Below w.heap.size w w' := by
 have HLG := Lib.hid (b10Long_any a0 N c0 w)
 by_cases hlong : 1048576 < N
 ·have hd : decide (1048576 < N) = true := decide_eq_true hlong
  rw [hd] at HLG
  clear hd hN hc
  go_enter Tryz.func3, Tryz.ntmps3
  go_wp2_with fail
  refine Calls.mono HLG.out ?_
  rintro e w1 ⟨rfl, rfl⟩
  go_wp2
  go_ret
  exact ⟨rfl, Below.refl _ _⟩
 have hd : decide (1048576 < N) = false := decide_eq_false hlong
 rw [hd] at HLG
 have HTD := Lib.hid (tested_any (.slice a0 N c0) bs w (hc (by omega)))
 have HG := Lib.hid g
 clear hd hN hc g
 go_enter Tryz.func3, Tryz.ntmps3
 go_wp2_with fail
 refine Calls.mono HLG.out ?_
 rintro e w1 ⟨rfl, rfl⟩
 clear HLG
 go_wp2_with fail
 refine Calls.mono HTD.out ?_
 rintro e w1 ⟨hb1, t, b, la, ea, lb, eb, lc, ec, ld, ed, iv, ins, rfl, hif, hown, hi, hsh, hsi⟩
 obtain ⟨ia, ic, rfl, -, -⟩ := owns_slice hi
 obtain ⟨tb, htb⟩ : ∃ tb, tb = w1.heap.size := ⟨_, rfl⟩
 obtain ⟨W2, hW2⟩ : ∃ W2, W2 = (w1.alloc (.cells #[.int .i64 t.states, .int .i64 t.initial, .slice la t.labels.length lc, .slice ea t.edges.length ec] 27)).alloc (.cells #[.int .i64 b.states, .int .i64 b.initial, .slice lb b.labels.length ld, .slice eb b.edges.length ed] 27) := ⟨_, rfl⟩
 have hb2 : Below w1.heap.size w1 W2 := by rw [hW2]; exact ((Below.refl _ _).alloc (Nat.le_refl _) _).alloc (by simp) _
 have hT : Blk W2 tb [.int .i64 t.states, .int .i64 t.initial, .slice la t.labels.length lc, .slice ea t.edges.length ec] 27 := by rw [hW2, htb]; exact (Blk.new w1 _ _).alloc _
 have hs1 : w.heap.size ≤ w1.heap.size := hb1.size
 have HB2 : Hid (Below w.heap.size w W2) := hb1.trans (hb2.mono hs1)
 have hs2 : w.heap.size ≤ W2.heap.size := HB2.out.size
 have HL := Lib.hid (SliceK.of_owns (enc := encS) (e := 9) encS_len rfl (by rw [flat_encS]; exact (hown.below hb2).1))
 have HE := Lib.hid (SliceK.of_owns (e := 47) encE_len rfl (hown.below hb2).2)
 have HI := Lib.hid (SliceK.of_owns (enc := encS) (e := 9) encS_len rfl (by rw [flat_encS]; exact hi.below hb2))
 have HT := Lib.hid hT
 have HIF := Lib.hid hif
 have HSH := Lib.hid hsh
 have HSI := Lib.hid hsi
 have HG2 := Lib.hid (HG.out.below HB2.out)
 have HQ := Lib.hid (QuiescentStates_any w.heap.size t (.slice la t.labels.length lc) (.slice ea t.edges.length ec) (.slice ia ins.length ic) ins W2 hif HL.out HE.out HI.out hsh hsi HG2.out)
 have HW2 := Lib.hid hW2
 have HTB := Lib.hid htb
 clear hb1 hb2 hT hW2 htb hif hown hi hsh hsi HTD HG
 go_wp2_with fail
 rw [← HW2.out, ← HTB.out]
 refine Calls.mono HQ.out ?_
 rintro e w3 ⟨qv, rfl, hb3, hoq⟩
 obtain ⟨qa, qc, rfl, -, -⟩ := owns_slice hoq
 have HT3 := Lib.hid (HT.out.below hb3)
 have t0 := HT3.out.cell 0 rfl
 have t1 := HT3.out.cell 1 rfl
 have t2 := HT3.out.cell 2 rfl
 have t3 := HT3.out.cell 3 rfl
 have HL3 := Lib.hid (HL.out.below hb3)
 have HE3 := Lib.hid (HE.out.below hb3)
 have HI3 := Lib.hid (HI.out.below hb3)
 have HG3 := Lib.hid (HG2.out.below hb3)
 have HB3 := Lib.hid (HB2.out.trans (hb3.mono hs2))
 have hs3 : w.heap.size ≤ w3.heap.size := HB3.out.size
 have HOQ := Lib.hid hoq
 have HS := Lib.hid (SuspensionLts_any w.heap.size t (.slice la t.labels.length lc) (.slice ea t.edges.length ec) (.slice ia ins.length ic) ins w3 HSH.out HSI.out HL3.out HE3.out HI3.out HG3.out)
 clear hb3 hoq HQ HL HE HI HG2
 go_wp2_with fail
 refine Calls.mono HS.out ?_
 rintro e w4 ⟨hb4, d, code, lv4, ev4, rfl, hsl, hod⟩
 obtain ⟨la4, lc4, rfl, -, -⟩ := owns_slice hod.1
 obtain ⟨ea4, ec4, rfl, -, -⟩ := owns_slice hod.2
 have HB4 := Lib.hid (HB3.out.trans (hb4.mono hs3))
 have hs4 : w.heap.size ≤ w4.heap.size := HB4.out.size
 have HT4 := Lib.hid (HT3.out.below hb4)
 have HL4 := Lib.hid (HL3.out.below hb4)
 have HE4 := Lib.hid (HE3.out.below hb4)
 have HI4 := Lib.hid (HI3.out.below hb4)
 have HG4 := Lib.hid (HG3.out.below hb4)
 have HOQ4 := Lib.hid (owns_below HOQ.out hb4)
 have HOD := Lib.hid hod
 clear hb4 hod HS t0 t1 t2 t3 HT3 HL3 HE3 HI3 HG3 HOQ
 have t0 := HT4.out.cell 0 rfl
 have t1 := HT4.out.cell 1 rfl
 have t2 := HT4.out.cell 2 rfl
 have t3 := HT4.out.cell 3 rfl
 rcases hsl with ⟨h1, -, -⟩ | ⟨h1, h2, rfl, rfl⟩ | ⟨h1, h2, rfl, rfl⟩
 ·exact absurd HIF.out h1
 ·obtain ⟨W5, hW5⟩ : ∃ W5, W5 = w4.alloc (.cells #[.int .i64 0, .int .i64 0, .slice la4 0 lc4, .slice ea4 0 ec4] 27) := ⟨_, rfl⟩
  have hb5 : Below w4.heap.size w4 W5 := by rw [hW5]; exact (Below.refl _ _).alloc (Nat.le_refl _) _
  have HSF := Lib.hid (specSuspensionFull_any w.heap.size t (.slice la t.labels.length lc) (.slice ea t.edges.length ec) (.slice ia ins.length ic) ins W5 HIF.out h2 (fun i hi => Nat.le_trans (HSH.out i hi) (by decide)) (HL4.out.below hb5) (HE4.out.below hb5) (HI4.out.below hb5))
  have HB5 := Lib.hid (HB4.out.trans (hb5.mono hs4))
  have hs5 : w.heap.size ≤ W5.heap.size := HB5.out.size
  have HW5 := Lib.hid hW5
  have T5 := HT4.out.below hb5
  have u0 := T5.cell 0 rfl
  have u1 := T5.cell 1 rfl
  have u2 := T5.cell 2 rfl
  have u3 := T5.cell 3 rfl
  rw [hW5] at u0 u1 u2 u3
  clear hb5 hW5 h1 h2 T5
  go_wp2_with fail
  rw [← HW5.out]
  refine Calls.mono HSF.out ?_
  rintro e w6 ⟨rfl, hb6⟩
  have HB6 := Lib.hid (HB5.out.trans (hb6.mono hs5))
  clear hb6 HSF u0 u1 u2 u3 t0 t1 t2 t3
  go_wp2
  go_ret
  exact ⟨rfl, HB6.out.alloc HB6.out.size _⟩
 ·obtain ⟨D, hD⟩ : ∃ D, D = susT t ins := ⟨_, rfl⟩
  have hDst : D.states = t.states := by rw [hD]; rfl
  have hDct : D.edges.length = t.edges.length + (quiets t ins).length := by rw [hD]; exact sus_count t ins
  have hDsh : Short20 D.labels := by rw [hD]; exact sus_short ins HSH.out
  have hDin : deltaT ∈ D.labels := by rw [hD]; exact delta_has ins
  have hDfo : ∀ k : Int, 0 ≤ k → k < t.states → (followL D [k] deltaT == [k]) = (quiets t ins).contains k := fun k h0 h1 => by rw [hD]; exact nums_has HIF.out h0 h1
  rw [← hD] at h2 HOD ⊢
  have hst1 := HIF.out.valid.st0
  have hst2 := HIF.out.valid.st1
  obtain ⟨db, hdb⟩ : ∃ db, db = w4.heap.size := ⟨_, rfl⟩
  obtain ⟨W5, hW5⟩ : ∃ W5, W5 = w4.alloc (.cells #[.int .i64 D.states, .int .i64 D.initial, .slice la4 D.labels.length lc4, .slice ea4 D.edges.length ec4] 27) := ⟨_, rfl⟩
  have hb5 : Below w4.heap.size w4 W5 := by rw [hW5]; exact (Below.refl _ _).alloc (Nat.le_refl _) _
  have hD5 : Blk W5 db [.int .i64 D.states, .int .i64 D.initial, .slice la4 D.labels.length lc4, .slice ea4 D.edges.length ec4] 27 := by rw [hW5, hdb]; exact Blk.new _ _ _
  have HB5 := Lib.hid (HB4.out.trans (hb5.mono hs4))
  have hs5 : w.heap.size ≤ W5.heap.size := HB5.out.size
  have HD5 := Lib.hid hD5
  have HT5 := Lib.hid (HT4.out.below hb5)
  have HOD5 := Lib.hid (HOD.out.below hb5)
  have HOQ5 := Lib.hid (owns_below HOQ4.out hb5)
  have HG5 := Lib.hid (HG4.out.below hb5)
  have HDL := Lib.hid (SliceK.of_owns (enc := encS) (e := 9) encS_len rfl (by rw [flat_encS]; exact HOD5.out.1))
  have HDE := Lib.hid (SliceK.of_owns (e := 47) encE_len rfl HOD5.out.2)
  have HQL := Lib.hid (SliceK.of_owns (enc := encI) (e := 2) encI_len rfl (by rw [flat_encI]; exact HOQ5.out))
  have HVD := Lib.hid (specValid_yes _ D _ _ W5 h2 (fun i hi => Nat.le_trans (hDsh i hi) (by decide)) HDL.out HDE.out)
  have H2 := Lib.hid h2
  have HDSH := Lib.hid hDsh
  have HDIN := Lib.hid hDin
  have HDFO := Lib.hid hDfo
  have HDST := Lib.hid hDst
  have HW5 := Lib.hid hW5
  have HDB := Lib.hid hdb
  have HDCT := Lib.hid hDct
  clear hb5 hD5 h1 h2 hW5 hdb hDsh hDin hDfo hDst hDct hD HT4 HL4 HE4 HI4 HG4 HOQ4 HOD t0 t1 t2 t3
  go_wp2_with fail
  rw [← HW5.out]
  try rw [← HDB.out]
  refine Calls.mono HVD.out ?_
  rintro e w6 ⟨rfl, hb6⟩
  have HB6 := Lib.hid (HB5.out.trans (hb6.mono hs5))
  have hs6 : w.heap.size ≤ w6.heap.size := HB6.out.size
  have HD6 := Lib.hid (HD5.out.below hb6)
  have HT6 := Lib.hid (HT5.out.below hb6)
  have HG6 := Lib.hid (HG5.out.below hb6)
  have HDL6 := Lib.hid (HDL.out.below hb6)
  have HDE6 := Lib.hid (HDE.out.below hb6)
  have HQL6 := Lib.hid (HQL.out.below hb6)
  have d0 := HD6.out.cell 0 rfl
  have d3 := HD6.out.cell 3 rfl
  have t0 := HT6.out.cell 0 rfl
  have t3 := HT6.out.cell 3 rfl
  rw [HDST.out] at d0
  have hcnt : ((D.edges.length : Int) == (t.edges.length : Int) + ((quiets t ins).length : Int)) = true := by have := HDCT.out; rw [beq_iff_eq]; omega
  have hcnt2 : (D.edges.length : Int) = (t.edges.length : Int) + ((quiets t ins).length : Int) := by have := HDCT.out; omega
  clear hb6 HVD HD5 HT5 HG5 HDL HDE HQL
  have hqn : (quiets t ins).length ≤ 40 := by have := quiets_len t ins; omega
  have hmost := HIF.out.valid.most
  try rw [← HDB.out]
  go_wp2_with fail
  clear d0 d3 t0 t3 hcnt hcnt2
  go_loopw [12] (fun v12 wr => ∃ k : Nat, v12 = .int .i64 k ∧ (k : Int) ≤ t.states ∧ Below w6.heap.size w6 wr) (fun v12 _ => t.states.toNat - (intOf v12).toNat)
  case atStart => exact ⟨0, rfl, by omega, Below.refl _ _⟩
  case round =>
   obtain ⟨k, rfl, hk, hb⟩ := hrel
   obtain ⟨wC, rfl⟩ : ∃ wC : World, wC = wr := ⟨_, rfl⟩
   have HB := Lib.hid hb
   have HBW := Lib.hid (HB6.out.trans (hb.mono hs6))
   have hsC : w.heap.size ≤ wC.heap.size := HBW.out.size
   have t0 := (HT6.out.below hb).cell 0 rfl
   have d0 := (HD6.out.below hb).cell 0 rfl
   have d1 := (HD6.out.below hb).cell 1 rfl
   have d2 := (HD6.out.below hb).cell 2 rfl
   have d3 := (HD6.out.below hb).cell 3 rfl
   by_cases hlt : (k : Int) < t.states
   ·have HSO := Lib.hid (SuccessorsOf_any _ D _ _ k deltaT wC H2.out ⟨by omega, by rw [HDST.out]; exact hlt⟩ HDIN.out (HDL6.out.below hb) (HDE6.out.below hb) HDSH.out (HG6.out.below hb))
    have hfo := HDFO.out k (by omega) hlt
    obtain ⟨bb, hbb⟩ : ∃ bb, bb = (quiets t ins).contains (k : Int) := ⟨_, rfl⟩
    rw [← hbb] at hfo
    have HFO := Lib.hid hfo
    have HBB := Lib.hid hbb
    clear hb hfo hbb
    go_wp2_with fail
    refine Calls.mono HSO.out ?_
    rintro e w7 ⟨sv, rfl, hb7, hos⟩
    obtain ⟨sa, sc, rfl, -, -⟩ := owns_slice hos
    have HB7 := Lib.hid (HB.out.trans (hb7.mono HB.out.size))
    obtain ⟨W8, hW8⟩ : ∃ W8, W8 = w7.alloc (.cells #[.int .i64 k] 2) := ⟨_, rfl⟩
    have hb8 : Below w7.heap.size w7 W8 := by rw [hW8]; exact (Below.refl _ _).alloc (Nat.le_refl _) _
    have HB8 := Lib.hid (HB7.out.trans (hb8.mono HB7.out.size))
    have HNU : Hid (Calls Tryz.prog 11 #[.slice sa (followL D [(k : Int)] deltaT).length sc, .slice (some ⟨w7.heap.size, 0, none⟩) 1 1] W8 fun e w' => e = .returned (.bool bb) ∧ Below W8.heap.size W8 w') := by
     have h1 := SliceK.of_owns (enc := encI) (e := 2) encI_len rfl (by rw [flat_encI]; exact owns_below hos hb8)
     have h2 : SliceK 1 encI w7.heap.size W8 (.slice (some ⟨w7.heap.size, 0, none⟩) 1 1) [(k : Int)] := by
      have h := World.ownsRow_lit (base := w7.heap.size) (size := 1) w7 #[.int .i64 k] (e := 2) 1 (Nat.le_refl _) (by simp [maxLen]) rfl
      rw [hW8]
      exact SliceK.of_owns (enc := encI) (e := 2) encI_len rfl (by rw [flat_encI]; exact h)
     have h3 := b10Nums_any _ _ _ _ _ _ W8 h1 h2
     rw [HFO.out] at h3
     exact h3
    have HW8 := Lib.hid hW8
    clear hb7 hos hW8 hb8 HSO d0 d1 d2 d3 t0
    go_wp2_with fail
    rw [← HW8.out]
    refine Calls.mono HNU.out ?_
    rintro e w9 ⟨rfl, hb9⟩
    have HB9 := Lib.hid (HB8.out.trans (hb9.mono HB8.out.size))
    have HHA : Hid (Calls Tryz.prog 12 #[.slice qa (quiets t ins).length qc, .int .i64 k] w9 fun e w' => e = .returned (.bool bb) ∧ Below w9.heap.size w9 w') := by
     have h3 := b10Has_any _ _ _ (k : Int) w9 (HQL6.out.below HB9.out)
     rw [← HBB.out] at h3
     exact h3
    clear hb9 HNU
    go_wp2_with fail
    refine Calls.mono HHA.out ?_
    rintro e wA ⟨rfl, hbA⟩
    have HBA := Lib.hid (HB9.out.trans (hbA.mono HB9.out.size))
    have hbeq : (bb != bb) = false := by cases bb <;> rfl
    clear hbA HHA
    go_wp2
    go_roundw
    case rel => exact ⟨k + 1, by go_num, by omega, HBA.out⟩
    case measure => simp [intOf]; omega
   ·clear hb
    go_wp2
    go_ret
    exact ⟨rfl, HBW.out⟩

end Go.Proofs.YtnmkncioekdehaaGreatDoor
