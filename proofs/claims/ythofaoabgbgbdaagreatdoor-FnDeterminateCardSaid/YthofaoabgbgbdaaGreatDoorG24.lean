/-
  The reference's DeterminizeLts.
  Where one system does not refine another one: the reference's search, plainly.
  The implementation's excess: the first stable state whose offer is not met.
  What the refinement of both texts, RefinesFailures and EqualFailures return.
  The implementation's refinement.
-/
import Derived.Test.YthofaoabgbgbdaaGreatDoorG23
import Derived.Test.YthofaoabgbgbdaaGreatDoorG14
import Derived.Test.YthofaoabgbgbdaaGreatDoorG17
namespace Go.Proofs.YthofaoabgbgbdaaGreatDoor
open Go Go.RowKit


theorem sdet_results {w : World} {b : Nat} {v0 v1 v2 v3 : Value} {tmps : Array Value} (hc : tmps.getD 2 undef = .pointer (some ⟨b, 0, none⟩)) (hb : Blk w b [v0, v1, v2, v3] 27) :
  (results Tryz.f8 tmps).run Tryz.prog w = .ok (.tuple #[.agg #[v0, v1, v2, v3], tmps.getD 3 undef, tmps.getD 4 undef]) w := by
 have h0 := hb.cell 0 rfl
 have h1 := hb.cell 1 rfl
 have h2 := hb.cell 2 rfl
 have h3 := hb.cell 3 rfl
 simp only [Array.getD_eq_getD_getElem?] at hc
 simp [results, Tryz.results8, go_sem, hc, h0, h1, h2, h3, Result.andThen]

set_option maxRecDepth 100000 in
set_option maxHeartbeats 4000000 in
theorem specDeterminizeLts_any (lo : Nat) (t : Lts) (lv ev : Value) (w : World) (hsh : Short t.labels) (hl : SliceK 1 encS lo w lv t.labels) (he : SliceK 3 encE lo w ev t.edges) :
  Calls Tryz.prog 8 #[.agg #[.int .i64 t.states, .int .i64 t.initial, lv, ev]] w (RetDet t w) := by
 obtain ⟨tb, htb⟩ : ∃ tb, tb = w.heap.size := ⟨_, rfl⟩
 obtain ⟨wA, hwA⟩ : ∃ wA, wA = (w.alloc (.cells #[.int .i64 t.states, .int .i64 t.initial, lv, ev] 27)).alloc (.cells #[.int .i64 0, .int .i64 0, .slice none 0 0, .slice none 0 0] 27) := ⟨_, rfl⟩
 have hbA : Below w.heap.size w wA := by rw [hwA]; exact ((Below.refl _ _).alloc (Nat.le_refl _) _).alloc (by simp) _
 have hT : Blk wA tb [.int .i64 t.states, .int .i64 t.initial, lv, ev] 27 := by rw [hwA, htb]; exact (Blk.new w _ _).alloc _
 have hR : Blk wA (tb + 1) [.int .i64 0, .int .i64 0, .slice none 0 0, .slice none 0 0] 27 := by
  have := Blk.new (w.alloc (.cells #[.int .i64 t.states, .int .i64 t.initial, lv, ev] 27)) [.int .i64 0, .int .i64 0, .slice none 0 0, .slice none 0 0] 27
  rw [World.size_alloc, ← htb] at this
  rw [hwA]
  exact this
 have HSH := Lib.hid hsh
 have HL := Lib.hid (hl.below hbA)
 have HE := Lib.hid (he.below hbA)
 skip
 have HBA := Lib.hid hbA
 have HT := Lib.hid hT
 have HR := Lib.hid hR
 have HWA := Lib.hid hwA
 have HTB := Lib.hid htb
 have hsW : w.heap.size ≤ wA.heap.size := hbA.size
 have hle : w.heap.size ≤ tb + 1 := by rw [htb]; omega
 have HP : Hid (LtsPtr lo wA tb t) := ⟨lv, ev, hT.lt, hT.cell 0 rfl, hT.cell 1 rfl, hT.cell 2 rfl, hT.cell 3 rfl, HL.out, HE.out⟩
 clear hsh hl he  hwA hbA hT hR htb
 by_cases hv : Valid t
 ·have HV := Lib.hid hv
  have HVA : Hid (Calls Tryz.prog 21 #[.pointer (some ⟨tb, 0, none⟩)] wA fun e w' => e = .returned (.bool true) ∧ Below wA.heap.size wA w') := Decides.yes (l11Is_any _ lo t _ HSH.out HP.out) hv
  clear hv
  go_enter Tryz.func8, Tryz.ntmps8
  go_wp2_with fail
  rw [← HWA.out, ← HTB.out]
  refine Calls.mono HVA.out ?_
  rintro e w1 ⟨rfl, hb1⟩
  have HB1 := Lib.hid hb1
  have HR1 := Lib.hid (HR.out.below hb1)
  have HT1 := Lib.hid (HT.out.below hb1)
  have t0 := HT1.out.cell 0 rfl
  have t1 := HT1.out.cell 1 rfl
  have t2 := HT1.out.cell 2 rfl
  have t3 := HT1.out.cell 3 rfl
  have HD : Hid (Calls Tryz.prog 22 #[.pointer (some ⟨tb, 0, none⟩)] w1 (RetSets t w1)) := l12Sets_any _ lo t _ HV.out (HP.out.below hb1)
  clear hb1
  skip
  go_wp2_with fail
  refine Calls.mono HD.out ?_
  rintro e w3 ⟨hb3, ⟨hfull, rfl⟩ | ⟨st, lvS, vr, evS, hok, rfl, hmem, hol⟩⟩
  ·obtain ⟨W3, hW3⟩ : ∃ W3, W3 = w3.alloc (.cells #[.int .i64 0, .int .i64 0, .slice none 0 0, .slice none 0 0] 27) := ⟨_, rfl⟩
   have hb4 : Below w3.heap.size w3 W3 := by rw [hW3]; exact (Below.refl _ _).alloc (Nat.le_refl _) _
   have HF := Lib.hid hfull
   have HB4 := Lib.hid (HB1.out.trans ((hb3.trans (hb4.mono hb3.size)).mono HB1.out.size))
   have HR4 := Lib.hid ((HR1.out.below hb3).below hb4)
   have HW3 := Lib.hid hW3
   have r0 := HR4.out.cell 0 rfl
   have r1 := HR4.out.cell 1 rfl
   have r2 := HR4.out.cell 2 rfl
   have r3 := HR4.out.cell 3 rfl
   have s0 := HR4.out.frozen 0
   have s1 := HR4.out.frozen 1
   have s2 := HR4.out.frozen 2
   have s3 := HR4.out.frozen 3
   rw [hW3] at r0 r1 r2 r3 s0 s1 s2 s3
   clear hfull hb3 hb4 hW3 t0 t1 t2 t3
   go_wp2
   rw [← HW3.out]
   refine bodyPost_ret (sdet_results rfl ((((HR4.out.set 0 _).set 1 _).set 2 _).set 3 _)) rfl ?_
   exact det_none (((((HBA.out.trans (HB4.out.mono hsW)).setCell hle _).setCell hle _).setCell hle _).setCell hle _) (.inr (.inl ⟨HV.out, HF.out, rfl, rfl, rfl⟩))
  ·obtain ⟨la, lc, rfl, -, -⟩ := owns_slice hol
   obtain ⟨ea, ec, rfl, -, -⟩ := owns_slice hmem.2
   obtain ⟨⟨vs, hiv⟩, hme⟩ := hmem
   obtain ⟨R, hRR⟩ : ∃ R, R = st.rows.length := ⟨_, rfl⟩
   obtain ⟨LN, hLN⟩ : ∃ LN, LN = t.labels.length := ⟨_, rfl⟩
   obtain ⟨EN, hEN⟩ : ∃ EN, EN = st.edges.length := ⟨_, rfl⟩
   have HME := Lib.hid hme
   have HML := Lib.hid hol
   rw [← hLN] at HML
   rw [← hEN] at HME
   rw [← hRR, ← hLN, ← hEN]
   obtain ⟨W3, hW3⟩ : ∃ W3, W3 = w3.alloc (.cells #[.int .i64 R, .int .i64 0, .slice la LN lc, .slice ea EN ec] 27) := ⟨_, rfl⟩
   have hb4 : Below w3.heap.size w3 W3 := by rw [hW3]; exact (Below.refl _ _).alloc (Nat.le_refl _) _
   have hX : Blk W3 w3.heap.size [.int .i64 R, .int .i64 0, .slice la LN lc, .slice ea EN ec] 27 := by rw [hW3]; exact Blk.new _ _ _
   have HOK := Lib.hid hok
   have HB4 := Lib.hid (HB1.out.trans ((hb3.trans (hb4.mono hb3.size)).mono HB1.out.size))
   have HR4 := Lib.hid ((HR1.out.below hb3).below hb4)
   have HW3 := Lib.hid hW3
   have HRR := Lib.hid hRR
   have HLN := Lib.hid hLN
   have HEN := Lib.hid hEN
   have hss := Nat.le_trans hsW HB1.out.size
   have HME4 := Lib.hid (own_lower (owns_below HME.out hb4) hss)
   have HML4 := Lib.hid (own_lower (owns_below HML.out hb4) hss)
   have HIV4 := Lib.hid ((hiv.below hb4).lower hss)
   have r0 := HR4.out.cell 0 rfl
   have r1 := HR4.out.cell 1 rfl
   have r2 := HR4.out.cell 2 rfl
   have r3 := HR4.out.cell 3 rfl
   have s0 := HR4.out.frozen 0
   have s1 := HR4.out.frozen 1
   have s2 := HR4.out.frozen 2
   have s3 := HR4.out.frozen 3
   rw [hW3] at r0 r1 r2 r3 s0 s1 s2 s3
   clear hok hb3 hb4 hW3 t0 t1 t2 t3 hme hiv hol hRR hLN hEN HME HML hX
   go_wp2
   rw [← HW3.out]
   refine bodyPost_ret (sdet_results rfl ((((HR4.out.set 0 _).set 1 _).set 2 _).set 3 _)) rfl ?_
   refine ⟨((((HBA.out.trans (HB4.out.mono hsW)).setCell hle _).setCell hle _).setCell hle _).setCell hle _, dSys t st, st.rows, 0, .slice la LN lc, .slice ea EN ec, vr, vs, by rw [HRR.out]; rfl, .inr (.inr ⟨HV.out, st, HOK.out, rfl, rfl, rfl⟩), ⟨?_, ?_⟩, ?_⟩
   ·show World.ownsRow _ _ _ _ _ t.labels.length _
    rw [← HLN.out]; exact own4 HR4.out HML4.out (by decide)
   ·show World.ownsRow _ _ _ _ _ st.edges.length _
    rw [← HEN.out]; exact own4 HR4.out HME4.out (by decide)
   ·exact (((HIV4.out.set1 HR4.out (by decide) (by decide) 0 _).set1 (HR4.out.set 0 _) (by decide) (by decide) 1 _).set1 ((HR4.out.set 0 _).set 1 _) (by decide) (by decide) 2 _).set1 (((HR4.out.set 0 _).set 1 _).set 2 _) (by decide) (by decide) 3 _
 ·have HV := Lib.hid hv
  have HVA : Hid (Calls Tryz.prog 21 #[.pointer (some ⟨tb, 0, none⟩)] wA fun e w' => e = .returned (.bool false) ∧ Below wA.heap.size wA w') := Decides.no (l11Is_any _ lo t _ HSH.out HP.out) hv
  clear hv
  go_enter Tryz.func8, Tryz.ntmps8
  go_wp2_with fail
  rw [← HWA.out, ← HTB.out]
  refine Calls.mono HVA.out ?_
  rintro e w1 ⟨rfl, hb1⟩
  have HB1 := Lib.hid hb1
  have HR1 := Lib.hid (HR.out.below hb1)
  have r0 := HR1.out.cell 0 rfl
  have r1 := HR1.out.cell 1 rfl
  have r2 := HR1.out.cell 2 rfl
  have r3 := HR1.out.cell 3 rfl
  have s0 := HR1.out.frozen 0
  have s1 := HR1.out.frozen 1
  have s2 := HR1.out.frozen 2
  have s3 := HR1.out.frozen 3
  clear hb1
  skip
  go_wp2
  refine bodyPost_ret (sdet_results rfl ((((HR1.out.set 0 _).set 1 _).set 2 _).set 3 _)) rfl ?_
  exact det_none (((((HBA.out.trans (HB1.out.mono hsW)).setCell hle _).setCell hle _).setCell hle _).setCell hle _) (.inl ⟨HV.out, rfl, rfl, rfl⟩)

end Go.Proofs.YthofaoabgbgbdaaGreatDoor

namespace Go.Proofs.YthofaoabgbgbdaaGreatDoor
open Go Go.RowKit

theorem setOf_len {t : Lts} {st : DNet} (hv : Valid t) (h : DOk t st) {q : Int} (hq : q < (dSys t st).states) : (setOf st q).length ≤ 40 := by
 by_cases h0 : q < 0
 ·rw [setOf_neg h0]; simp
 ·have hq2 : q.toNat < st.rows.length := by have : q < (st.rows.length : Int) := hq; omega
  have e0 : q = ((q.toNat : Nat) : Int) := by omega
  rw [e0, setOf_at (List.getElem?_eq_getElem hq2)]
  obtain ⟨h1, h2, h3⟩ := (dok_good hv h).rows _ (List.getElem_mem hq2)
  refine few_states ?_ h1 hv.st1
  rw [List.nodup_iff_pairwise_ne]
  exact h2.imp fun h => by omega

end Go.Proofs.YthofaoabgbgbdaaGreatDoor

namespace Go.Proofs.YthofaoabgbgbdaaGreatDoor
open Go Go.RowKit

theorem rdy_len {t : Lts} (hv : Valid t) (k : Int) : (rdy t k).length ≤ 300 := by
 unfold rdy labSet
 rw [List.length_map]
 refine Nat.le_trans (Lib.compact_length_le _) ?_
 rw [List.length_mergeSort, List.length_map, List.length_map]
 exact Nat.le_trans (List.length_filter_le _ _) hv.most

set_option maxRecDepth 100000 in
set_option maxHeartbeats 1000000 in
theorem excess1_any (lo lo2 tb ob : Nat) (t : Lts) (lv ev ov : Value) (o : List ByteArray) (k : Int) (w : World) (hv : Valid t) (hl : SliceK 1 encS lo w lv t.labels) (he : SliceK 3 encE lo w ev t.edges) (ho : SliceK 1 encS lo2 w ov o)
  (ht : Blk w tb [.int .i64 t.states, .int .i64 t.initial, lv, ev] 27) (hob : Blk w ob [ov] 24) :
  Calls Tryz.prog 111 #[.int .i64 k, .pointer (some ⟨tb, 0, none⟩), .pointer (some ⟨ob, 0, none⟩)] w fun e w' => e = .returned (.bool (withinL (rdy t k) o)) ∧ Below w.heap.size w w' := by
 have HOV := Lib.hid ho
 have HOB := Lib.hid hob
 have HTB := Lib.hid ht
 have hD : Below w.heap.size w w.drew := (Below.refl _ _).drew
 have HSW : Hid (∀ w', Below w.heap.size w w' → w'.cell? ⟨ob, 0, none⟩ = some ov ∧ w'.cell? ⟨tb, 0, none⟩ = some (.int .i64 t.states) ∧ w'.cell? ⟨tb, 1, none⟩ = some (.int .i64 t.initial) ∧ w'.cell? ⟨tb, 2, none⟩ = some lv ∧ w'.cell? ⟨tb, 3, none⟩ = some ev) := fun w' hb =>
  ⟨(HOB.out.below hb).cell 0 rfl, (HTB.out.below hb).cell 0 rfl, (HTB.out.below hb).cell 1 rfl, (HTB.out.below hb).cell 2 rfl, (HTB.out.below hb).cell 3 rfl⟩
 have HD := Lib.hid hD
 have HRL := Lib.hid (readyLabels_any lo t lv ev k w.drew hv (hl.below hD) (he.below hD))
 have hrl := rdy_len hv k
 have HLK : Hid (∀ w' v, Below w.heap.size w w' → SliceK 1 encS w.drew.heap.size w' v (rdy t k) → Calls Tryz.prog 61 #[v, ov] w' (MadeTxI (lackL (rdy t k) o) w')) := fun w' v hb h => lacking_any _ lo2 v ov (rdy t k) o w' h (HOV.out.below hb) (by omega)
 have hle : (lackL (rdy t k) o).length ≤ 300 := Nat.le_trans (List.length_filter_le _ _) hrl
 have HRF : Hid (withinL (rdy t k) o = (((lackL (rdy t k) o).length : Int) == 0)) := by
  unfold Hid
  rw [Bool.eq_iff_iff, ← lack_nil, beq_iff_eq]
  omega
 obtain ⟨KN, hKN⟩ : ∃ KN, KN = (lackL (rdy t k) o).length := ⟨_, rfl⟩
 rw [← hKN] at HRF hle
 have HKN := Lib.hid hKN
 clear hv hl he ho ht hob hD hKN hrl
 go_enter Tryz.func111, Tryz.ntmps111
 go_wp2
 go_region_held3 (fun w' => w'.cell? ⟨ob, 0, none⟩ = some ov ∧ w'.cell? ⟨tb, 0, none⟩ = some (.int .i64 t.states) ∧ w'.cell? ⟨tb, 1, none⟩ = some (.int .i64 t.initial) ∧ w'.cell? ⟨tb, 2, none⟩ = some lv ∧ w'.cell? ⟨tb, 3, none⟩ = some ev)
  (first
   | exact HSW.out _ HD.out
   | exact HSW.out _ hq1
   | exact HSW.out _ hq2
   | go_keep)
  (first
   | (go_at_call 62; refine Calls.mono HRL.out ?_; rintro e w1 ⟨v1, rfl, hb1, ho1⟩; have hq1 : Below w.heap.size w w1 := HD.out.trans (hb1.mono (by simp)))
   | (go_at_call 61; refine Calls.mono (HLK.out _ _ hq1 ho1.at) ?_; rintro e w2 ⟨v2, rfl, hb2, ho2⟩; obtain ⟨a2, c2, rfl, -, -⟩ := owns_slice ho2; rw [← HKN.out]; have hq2 : Below w.heap.size w w2 := hq1.trans (hb2.mono hq1.size))
   | fail)
 all_goals (
  have HQ := Lib.hid hq2
  clear hb1 ho1 hq1 hb2 ho2 hq2
  go_wp2
  go_ret
  exact ⟨ret_bool HRF.out.symm, HQ.out⟩)

theorem excL_at {a b : Lts} {S T : List Int} {k : Nat} (hk : k < (stabs b T).length) (hno : ∀ j (h : j < (stabs b T).length), j < k → excB a b S (stabs b T)[j] = false) (hb : excB a b S (stabs b T)[k] = true) : excL a b S T = (stabs b T)[k] := by
 unfold excL
 rw [find_at hk hno hb, Option.getD_some]
theorem excL_none {a b : Lts} {S T : List Int} (hno : ∀ j (h : j < (stabs b T).length), excB a b S (stabs b T)[j] = false) : excL a b S T = -1 := by
 unfold excL
 rw [find_none hno]
 rfl

set_option maxRecDepth 100000 in
set_option maxHeartbeats 4000000 in
theorem excess_any (lo lo2 lo3 : Nat) (a b : Lts) (la ea lb eb av sv : Value) (S T : List Int) (w : World) (hva : Valid a) (hvb : Valid b) (hal : SliceK 1 encS lo w la a.labels) (hae : SliceK 3 encE lo w ea a.edges) (hbl : SliceK 1 encS lo w lb b.labels) (hbe : SliceK 3 encE lo w eb b.edges)
  (hS : SliceK 1 encI lo2 w av S) (hT : SliceK 1 encI lo3 w sv T) (hSz : S.length ≤ 1000) (hTz : T.length ≤ 1000) :
  Calls Tryz.prog 69 #[.agg #[.int .i64 a.states, .int .i64 a.initial, la, ea], .agg #[.int .i64 b.states, .int .i64 b.initial, lb, eb], av, sv] w fun e w' => e = .returned (.int .i64 (excL a b S T)) ∧ Below w.heap.size w w' := by
 obtain ⟨tb, htb⟩ : ∃ tb, tb = w.heap.size := ⟨_, rfl⟩
 obtain ⟨wA, hwA⟩ : ∃ wA, wA = (w.alloc (.cells #[.int .i64 a.states, .int .i64 a.initial, la, ea] 27)).alloc (.cells #[.int .i64 b.states, .int .i64 b.initial, lb, eb] 27) := ⟨_, rfl⟩
 have hbA : Below w.heap.size w wA := by rw [hwA]; exact ((Below.refl _ _).alloc (Nat.le_refl _) _).alloc (by simp) _
 have hX : Blk wA tb [.int .i64 a.states, .int .i64 a.initial, la, ea] 27 := by rw [hwA, htb]; exact (Blk.new w _ _).alloc _
 have hY : Blk wA (tb + 1) [.int .i64 b.states, .int .i64 b.initial, lb, eb] 27 := by
  have h := Blk.new (w.alloc (.cells #[.int .i64 a.states, .int .i64 a.initial, la, ea] 27)) [.int .i64 b.states, .int .i64 b.initial, lb, eb] 27
  rw [World.size_alloc, ← htb] at h
  rw [hwA]
  exact h
 have HST := Lib.hid (stable_any lo lo3 b lb eb sv T wA hvb (hbl.below hbA) (hbe.below hbA) (hT.below hbA) (by omega))
 have HVA := Lib.hid hva
 have HVB := Lib.hid hvb
 have HAL := Lib.hid (hal.below hbA)
 have HAE := Lib.hid (hae.below hbA)
 have HBL := Lib.hid (hbl.below hbA)
 have HBE := Lib.hid (hbe.below hbA)
 have HSV := Lib.hid (hS.below hbA)
 have hsl : (stabs b T).length ≤ 1000 := Nat.le_trans (List.length_filter_le _ _) hTz
 have HSZ : Hid (S.length ≤ 1048576) := by unfold Hid; omega
 have HX := Lib.hid hX
 have HY := Lib.hid hY
 have HBA := Lib.hid hbA
 have HWA := Lib.hid hwA
 have HTB := Lib.hid htb
 clear hva hvb hal hae hbl hbe hS hT hbA hX hY hwA htb hSz hTz
 go_enter Tryz.func69, Tryz.ntmps69
 go_wp2_with fail
 rw [← HWA.out]
 try rw [← HTB.out]
 refine Calls.mono HST.out ?_
 rintro e w1 ⟨v1, rfl, hb1, ho1⟩
 have hs1 : SliceK 1 encI wA.heap.size w1 v1 (stabs b T) := SliceK.of_owns (e := 2) encI_len rfl (by rw [flat_encI]; exact ho1)
 obtain ⟨va, vc, rfl, -, -, hrow⟩ := hs1
 have HR := Lib.hid hrow
 obtain ⟨N, hN⟩ : ∃ N, N = (stabs b T).length := ⟨_, rfl⟩
 rw [← hN] at hsl ⊢
 have HN := Lib.hid hN
 have HB1 := Lib.hid hb1
 have hsz1 := hb1.size
 clear hb1 ho1 hrow hN HST
 go_wp2
 go_loopw [17] (fun v17 wr => ∃ k : Nat, k ≤ N ∧ v17 = .int .i64 k ∧ Below w1.heap.size w1 wr ∧ ∀ j (h : j < (stabs b T).length), j < k → excB a b S (stabs b T)[j] = false) (fun v17 _ => N - (intOf v17).toNat)
 case atStart => exact ⟨0, Nat.zero_le _, rfl, Below.refl _ _, fun _ _ h => by omega⟩
 case round =>
  obtain ⟨k, hk, rfl, hbl, hno⟩ := hrel
  have HBK := Lib.hid hbl
  have HNO := Lib.hid hno
  have hsz := hbl.size
  clear hno
  by_cases hlt : k < N
  ·have hlt2 : k < (stabs b T).length := by rw [← HN.out]; exact hlt
   obtain ⟨b9, o9, rfl, -, hbw, cx⟩ := (HR.out.below hbl).one hlt2
   simp only [encI, List.getElem?_cons_zero] at cx
   obtain ⟨x, hx⟩ : ∃ x, x = (stabs b T)[k] := ⟨_, rfl⟩
   rw [← hx] at cx
   have HXX := Lib.hid hx
   have hA9 : Below wA.heap.size wA wr := HB1.out.trans (hbl.mono hsz1)
   have HA9 := Lib.hid hA9
   have hszA := hA9.size
   have y0 := (HY.out.below hA9).cell 0 rfl
   have y1 := (HY.out.below hA9).cell 1 rfl
   have y2 := (HY.out.below hA9).cell 2 rfl
   have y3 := (HY.out.below hA9).cell 3 rfl
   have HRL := Lib.hid (readyLabels_any lo b lb eb x wr HVB.out (HBL.out.below hA9) (HBE.out.below hA9))
   clear hbl hx hA9
   go_wp2_with fail
   refine Calls.mono HRL.out ?_
   rintro e w3 ⟨v3, rfl, hb3, ho3⟩
   obtain ⟨w4, hw4⟩ : ∃ w4, w4 = w3.alloc (.cells #[v3] 24) := ⟨_, rfl⟩
   obtain ⟨ob, hob⟩ : ∃ ob, ob = w3.heap.size := ⟨_, rfl⟩
   have hb34 : Below w3.heap.size w3 w4 := by rw [hw4]; exact (Below.refl _ _).alloc (Nat.le_refl _) _
   have hO4 : Blk w4 ob [v3] 24 := by rw [hw4, hob]; exact Blk.new w3 _ _
   have hA4 : Below wA.heap.size wA w4 := HA9.out.trans ((hb3.trans (hb34.mono hb3.size)).mono hszA)
   have HK4 := Lib.hid (HBK.out.trans ((hb3.trans (hb34.mono hb3.size)).mono hsz))
   have x0 := (HX.out.below hA4).cell 0 rfl
   have x1 := (HX.out.below hA4).cell 1 rfl
   have x2 := (HX.out.below hA4).cell 2 rfl
   have x3 := (HX.out.below hA4).cell 3 rfl
   have HO4 := Lib.hid hO4
   have HO3 : Hid (SliceK 1 encS wr.heap.size w4 v3 (rdy b x)) := ho3.at.below hb34
   have HST := Lib.hid (stable_any lo lo2 a la ea av S w4 HVA.out (HAL.out.below hA4) (HAE.out.below hA4) (HSV.out.below hA4) HSZ.out)
   have HA4 := Lib.hid hA4
   have hsz4 := HK4.out.size
   have HW4 := Lib.hid hw4
   have HOB := Lib.hid hob
   obtain ⟨a3, c3, rfl, -, -⟩ := owns_slice ho3
   have hxl := (HX.out.below hA4).lt
   rw [hw4] at x0 x1 x2 x3 hxl
   clear hb3 ho3 hb34 hO4 hA4 hw4 hob cx y0 y1 y2 y3 HRL
   go_wp2_with fail
   rw [← HW4.out]
   try rw [← HOB.out]
   refine Calls.mono HST.out ?_
   rintro e w5 ⟨v5, rfl, hb5, ho5⟩
   have hs5 : SliceK 1 encI w4.heap.size w5 v5 (stabs a S) := SliceK.of_owns (e := 2) encI_len rfl (by rw [flat_encI]; exact ho5)
   have HCF := Lib.hid (ContainsFuncI w4.heap.size v5 (stabs a S) 111 #[.pointer (some ⟨tb, 0, none⟩), .pointer (some ⟨ob, 0, none⟩)] (fun j => withinL (rdy a j) (rdy b x)) w5 hs5 (fun args w => by kernel_rfl)
    fun w' hb j _ => excess1_any lo wr.heap.size tb ob a la ea _ (rdy b x) j w' HVA.out (HAL.out.below (HA4.out.trans ((hb5.trans (hb.mono hb5.size)).mono HA4.out.size))) (HAE.out.below (HA4.out.trans ((hb5.trans (hb.mono hb5.size)).mono HA4.out.size))) (HO3.out.below (hb5.trans (hb.mono hb5.size))) (HX.out.below (HA4.out.trans ((hb5.trans (hb.mono hb5.size)).mono HA4.out.size))) (HO4.out.below (hb5.trans (hb.mono hb5.size))))
   have hex : excB a b S x = !((stabs a S).any fun j => withinL (rdy a j) (rdy b x)) := rfl
   obtain ⟨eb9, heb⟩ : ∃ eb9, eb9 = (stabs a S).any fun j => withinL (rdy a j) (rdy b x) := ⟨_, rfl⟩
   rw [← heb] at HCF hex
   have HEX := Lib.hid hex
   have HK5 := Lib.hid (HK4.out.trans (hb5.mono hsz4))
   have hsz5 := HK5.out.size
   clear hb5 ho5 hs5 x0 x1 x2 x3 hxl heb hex HST
   go_wp2_with fail
   refine Calls.mono HCF.out ?_
   rintro e w6 ⟨rfl, hb6⟩
   have HK6 := Lib.hid (HK5.out.trans (hb6.mono hsz5))
   clear hb6 HCF
   cases eb9
   ·have HF : Hid (excL a b S T = x) := by
     unfold Hid
     rw [excL_at hlt2 HNO.out (by rw [← HXX.out]; exact HEX.out), ← HXX.out]
    go_wp2
    go_ret
    exact ⟨by rw [HF.out]; rfl, HBA.out.trans ((HB1.out.trans (HK6.out.mono hsz1)).mono HBA.out.size)⟩
   ·go_wp2
    go_roundw
    case rel => exact ⟨k + 1, by omega, by go_num, HK6.out, fun j h hj => by
     by_cases e : j = k
     ·subst e; rw [← HXX.out]; exact HEX.out
     ·exact HNO.out j h (by omega)⟩
    case measure => simp [intOf]; omega
  ·have HF : Hid (excL a b S T = -1) := excL_none fun j h => HNO.out j h (by have := HN.out; omega)
   clear hbl
   go_wp2
   go_ret
   exact ⟨by rw [HF.out]; rfl, HBA.out.trans ((HB1.out.trans (HBK.out.mono hsz1)).mono HBA.out.size)⟩

end Go.Proofs.YthofaoabgbgbdaaGreatDoor

namespace Go.Proofs.YthofaoabgbgbdaaGreatDoor
open Go Go.RowKit

/-- What a determinization leaves, with its rows. -/
def SetsR (lo : Nat) (w : World) (t : Lts) (ok : Bool) (n0 : Int) (c2 c3 vr : Value) : Prop :=
 (ok = false ∧ DFull t) ∨ (ok = true ∧ ∃ st vs, DOk t st ∧ n0 = (dSys t st).states ∧ OwnLts lo w c2 c3 (dSys t st) ∧ OwnIntss 34 2 lo w vr vs st.rows)
theorem SetsR.below {lo : Nat} {w w' : World} {t : Lts} {ok : Bool} {n0 : Int} {c2 c3 vr : Value} (h : SetsR lo w t ok n0 c2 c3 vr) (hb : Below w.heap.size w w') : SetsR lo w' t ok n0 c2 c3 vr := by
 rcases h with h | ⟨h, st, vs, h1, h2, h3, h4⟩
 ·exact .inl h
 ·exact .inr ⟨h, st, vs, h1, h2, h3.below hb, h4.below hb⟩
theorem SetsR.lower {lo lo' : Nat} {w : World} {t : Lts} {ok : Bool} {n0 : Int} {c2 c3 vr : Value} (h : SetsR lo w t ok n0 c2 c3 vr) (hl : lo' ≤ lo) : SetsR lo' w t ok n0 c2 c3 vr := by
 rcases h with h | ⟨h, st, vs, h1, h2, h3, h4⟩
 ·exact .inl h
 ·exact .inr ⟨h, st, vs, h1, h2, h3.lower hl, h4.lower hl⟩
/-- The answer: whether it refines, the trace, the refusal. -/
def RefB (a b : Lts) (sa sb : DNet) (r : Bool) (xs ys : List ByteArray) : Prop :=
 (NoWord ((0 : Int), (0 : Int)) (goBoth (dSys a sa) (dSys b sb) (bothL a b)) ((bothL a b).length - 1) (badP a b sa sb) ∧ r = true ∧ xs = [] ∧ ys = [])
  ∨ ∃ u, Least ((0 : Int), (0 : Int)) (goBoth (dSys a sa) (dSys b sb) (bothL a b)) ((bothL a b).length - 1) (badP a b sa sb) u ∧ r = false ∧ xs = txtsOf (bothL a b) u ∧ ys = refL a b sa sb (difS (dSys a sa) (dSys b sb) (bothL a b) u)
theorem bothL_few {a b : Lts} (ha : Valid a) (hb : Valid b) : (bothL a b).length ≤ 25 := by
 unfold bothL labSet
 rw [List.length_map]
 refine Nat.le_trans (Lib.compact_length_le _) ?_
 rw [List.length_mergeSort, List.length_map, List.length_cons, List.length_append]
 have h1 := ha.labels.most
 have h2 := hb.labels.most
 omega
/-- Two rows lie apart. -/
def Far (v u : Value) : Prop := ∀ g, v.ownBlock = some g → u.ownBlock ≠ some g
theorem Far.none (u : Value) : Far (.slice Option.none 0 0) u := fun g h => by cases h
theorem Far.later {lo m e e' k k' n n' : Nat} {w w' : World} {v u : Value} {xs ys : List Value} (h : w.ownsRow lo e k v n xs) (hu : w'.ownsRow m e' k' u n' ys) (hm : w.heap.size ≤ m) : Far v u := fun g hg hg2 => by
 have h1 := (h.lt g hg).2
 have h2 := (hu.lt g hg2).1
 omega
theorem Far.symm {v u : Value} (h : Far v u) : Far u v := fun g h1 h2 => h g h2 h1
/-- What the refinement returns: the flag's sense is the program's (ok) and (refines). -/
def RetRfn (a b : Lts) (w w' : World) (ok r : Bool) (v1 v2 : Value) : Prop :=
 Below w.heap.size w w' ∧ ((ok = false ∧ (DFull a ∨ DFull b)) ∨ (ok = true ∧ ∃ sa sb xs ys, DOk a sa ∧ DOk b sb ∧ RefB a b sa sb r xs ys ∧ xs.length ≤ 2000 ∧ OwnStrs w.heap.size w' v1 xs ∧ OwnStrs w.heap.size w' v2 ys ∧ Far v1 v2))
/-- What EqualFailures returns. -/
def RetEqf (a b : Lts) (w : World) (e : Ending) (w' : World) : Prop :=
 Below w.heap.size w w' ∧ ∃ (r : Bool) (code : Int), e = .returned (.tuple #[.bool r, .int .i64 code]) ∧ EqfIs a b r code
theorem eqf_bad {a b : Lts} (h : ¬ (Valid a ∧ Valid b)) : EqfIs a b false 1 := ⟨false, [], [], false, [], [], .inl ⟨h, rfl, rfl, rfl, rfl⟩, .inl ⟨fun k => h ⟨k.2, k.1⟩, rfl, rfl, rfl, rfl⟩, rfl⟩
theorem eqf_full {a b : Lts} (ha : Valid a) (hb : Valid b) (h : DFull a ∨ DFull b) : EqfIs a b false 5 :=
 ⟨false, [], [], false, [], [], .inr (.inl ⟨⟨ha, hb⟩, h, rfl, rfl, rfl, rfl⟩), .inr (.inl ⟨⟨hb, ha⟩, h.symm, rfl, rfl, rfl, rfl⟩), rfl⟩
theorem eqf_some {a b : Lts} {sa sb sa' sb' : DNet} {r1 r2 : Bool} {xs ys xs' ys' : List ByteArray} (ha : Valid a) (hb : Valid b) (hoa : DOk a sa) (hob : DOk b sb) (hoa' : DOk a sa') (hob' : DOk b sb') (h : RefB a b sa sb r1 xs ys) (k : RefB b a sb' sa' r2 xs' ys') : EqfIs a b (r1 && r2) 0 :=
 ⟨r1, xs, ys, r2, xs', ys', .inr (.inr ⟨⟨ha, hb⟩, sa, sb, hoa, hob, rfl, h⟩), .inr (.inr ⟨⟨hb, ha⟩, sb', sa', hob', hoa', rfl, k⟩), rfl⟩
theorem badP_alive {a b : Lts} {sa sb : DNet} (p : Int × Int) : liveF (badP a b sa sb) p ↔ badP a b sa sb p := by
 unfold liveF deadB badP
 constructor
 ·exact fun h => h.2
 ·intro h
  refine ⟨?_, h⟩
  rintro ⟨-, h2⟩
  have := h.1
  omega

end Go.Proofs.YthofaoabgbgbdaaGreatDoor

namespace Go.Proofs.YthofaoabgbgbdaaGreatDoor
open Go Go.RowKit

theorem SliceK.drop1 {lo bl LL cl : Nat} {w : World} {L : List ByteArray} {pk : Addr} (h : SliceK 1 encS lo w (.slice (some ⟨bl, 0, none⟩) LL cl) L) (h1 : 1 ≤ LL) (hpk : pk = (if cl = 1 then (⟨bl, 0, none⟩ : Addr) else (⟨bl, 0, none⟩ : Addr).add 1)) :
  SliceK 1 encS lo w (.slice (some pk) (LL - 1) (cl - 1)) (L.drop 1) := by
 obtain ⟨a, c, h2, h3, h4, h5⟩ := h
 simp only [Value.slice.injEq] at h2
 obtain ⟨rfl, rfl, rfl⟩ := h2
 refine ⟨_, _, by rw [List.length_drop], by rw [List.length_drop]; omega, by omega, ?_⟩
 by_cases hc : cl = 1
 ·left; rw [List.length_drop]; omega
 ·rw [if_neg hc, Addr.add_lit] at hpk
  subst hpk
  rcases h5 with h5 | ⟨b, o, h6, h7, h8, h9⟩
  ·omega
  ·simp only [Option.some.injEq, Addr.mk.injEq, and_true] at h6
   obtain ⟨rfl, rfl⟩ := h6
   refine .inr ⟨_, _, rfl, h7, h8, fun i hi j hj => ?_⟩
   rw [List.length_drop] at hi
   have := h9 (i + 1) (by omega) j hj
   rw [List.getElem_drop]
   rw [show 0 + 1 + i * 1 + j = 0 + (i + 1) * 1 + j from by omega, this]
   congr 1
   congr 1
   congr 1
   omega

set_option maxRecDepth 100000 in
set_option maxHeartbeats 2000000 in
theorem rf1_any (lo lo9 xb yb pb sb : Nat) (a b : Lts) (sa sbn : DNet) (la ea lb eb vr ur : Value) (vs us : List Value) (p q : Int) (w : World) (hva : Valid a) (hvb : Valid b) (hoa : DOk a sa) (hob : DOk b sbn) (hp1 : p < (sa.rows.length : Int)) (hq1 : q < (sbn.rows.length : Int))
  (hal : SliceK 1 encS lo w la a.labels) (hae : SliceK 3 encE lo w ea a.edges) (hbl : SliceK 1 encS lo w lb b.labels) (hbe : SliceK 3 encE lo w eb b.edges) (hX : Blk w xb [.int .i64 a.states, .int .i64 a.initial, la, ea] 27) (hY : Blk w yb [.int .i64 b.states, .int .i64 b.initial, lb, eb] 27)
  (hpb : Blk w pb [vr] 31) (hsb : Blk w sb [ur] 31) (hr : OwnIntss 34 2 lo9 w vr vs sa.rows) (hu : OwnIntss 34 2 lo9 w ur us sbn.rows) :
  Calls Tryz.prog 68 #[.int .i64 p, .int .i64 q, .pointer (some ⟨xb, 0, none⟩), .pointer (some ⟨yb, 0, none⟩), .pointer (some ⟨pb, 0, none⟩), .pointer (some ⟨sb, 0, none⟩)] w (Decides (badP a b sa sbn (p, q)) w) := by
 by_cases hq : q < 0
 ·have HN : Hid (¬ badP a b sa sbn (p, q)) := fun h => by have h1 : 0 ≤ q := h.1; omega
  have hd : decide (0 ≤ q) = false := decide_eq_false (by omega)
  have hd2 : ¬ 0 ≤ q := by omega
  clear hva hvb hoa hob hp1 hq1 hal hae hbl hbe hX hY hpb hsb hr hu hq
  go_enter Tryz.func68, Tryz.ntmps68
  go_wp2
  refine wp_region_later (by kernel_rfl) (by kernel_rfl) ?_
  repeat (go_big_quiet_step ((fail)))
  refine wpQuiet_nil ?_
  intro _ hw9
  obtain ⟨nl, hw8⟩ := hw9
  subst hw8
  go_wp2
  go_ret
  exact ⟨false, rfl, ⟨(fun h => by cases h), fun h => absurd h HN.out⟩, nl.h⟩
 ·by_cases hp : p < 0
  ·have HN : Hid (badP a b sa sbn (p, q)) := ⟨by show 0 ≤ q; omega, .inl hp⟩
   have hd : decide (0 ≤ q) = true := decide_eq_true (by omega)
   have hd2 : 0 ≤ q := by omega
   have hd3 : decide (p < 0) = true := decide_eq_true hp
   clear hva hvb hoa hob hp1 hq1 hal hae hbl hbe hX hY hpb hsb hr hu hq
   go_enter Tryz.func68, Tryz.ntmps68
   go_wp2
   refine wp_region_later (by kernel_rfl) (by kernel_rfl) ?_
   repeat (go_big_quiet_step ((fail)))
   refine wpQuiet_nil ?_
   intro _ hw9
   obtain ⟨nl, hw8⟩ := hw9
   subst hw8
   go_wp2
   go_ret
   exact ⟨true, rfl, ⟨fun _ => HN.out, fun _ => rfl⟩, nl.h⟩
  ·obtain ⟨n, hn⟩ : ∃ n : Nat, (n : Int) = p := ⟨p.toNat, by omega⟩
   obtain ⟨m, hm⟩ : ∃ m : Nat, (m : Int) = q := ⟨q.toNat, by omega⟩
   have hnl : n < sa.rows.length := by omega
   have hml : m < sbn.rows.length := by omega
   have hsn : setOf sa p = sa.rows[n] := by rw [← hn]; exact setOf_at (List.getElem?_eq_getElem hnl)
   have hsm : setOf sbn q = sbn.rows[m] := by rw [← hm]; exact setOf_at (List.getElem?_eq_getElem hml)
   have hlen1 := setOf_len hva hoa (q := p) hp1
   have hlen2 := setOf_len hvb hob (q := q) hq1
   have hBP : badP a b sa sbn (p, q) ↔ 0 ≤ excL a b sa.rows[n] sbn.rows[m] := by
    unfold badP
    simp only
    rw [hsn, hsm]
    exact ⟨fun h => h.2.elim (fun h => absurd h hp) id, fun h => ⟨by omega, .inr h⟩⟩
   rw [hsn] at hlen1
   rw [hsm] at hlen2
   obtain ⟨b1, c1, u1, rfl, hb1, hc1, -, hsu1⟩ := hr.rowAt hnl
   obtain ⟨b2, c2, u2, rfl, hb2, hc2, -, hsu2⟩ := hu.rowAt hml
   obtain ⟨S, hS⟩ : ∃ S, S = sa.rows[n] := ⟨_, rfl⟩
   obtain ⟨T, hT⟩ : ∃ T, T = sbn.rows[m] := ⟨_, rfl⟩
   rw [← hS] at hsu1 hlen1 hBP
   rw [← hT] at hsu2 hlen2 hBP
   obtain ⟨R1, hR1⟩ : ∃ R, R = sa.rows.length := ⟨_, rfl⟩
   obtain ⟨R2, hR2⟩ : ∃ R, R = sbn.rows.length := ⟨_, rfl⟩
   rw [← hR1] at hpb hnl
   rw [← hR2] at hsb hml
   have HBP := Lib.hid hBP
   have HEX : Hid (∀ g : Later w, Calls Tryz.prog 69 #[.agg #[.int .i64 a.states, .int .i64 a.initial, la, ea], .agg #[.int .i64 b.states, .int .i64 b.initial, lb, eb], u1, u2] g.w fun e w' => e = .returned (.int .i64 (excL a b S T)) ∧ Below g.w.heap.size g.w w') := fun g =>
    excess_any lo _ _ a b la ea lb eb u1 u2 S T g.w hva hvb (hal.below g.h) (hae.below g.h) (hbl.below g.h) (hbe.below g.h) (hsu1.below g.h) (hsu2.below g.h) (by omega) (by omega)
   obtain ⟨ex, hex⟩ : ∃ ex, ex = excL a b S T := ⟨_, rfl⟩
   rw [← hex] at HBP HEX
   have lx0 := later_cell hX.lt (hX.cell 0 rfl)
   have lx1 := later_cell hX.lt (hX.cell 1 rfl)
   have lx2 := later_cell hX.lt (hX.cell 2 rfl)
   have lx3 := later_cell hX.lt (hX.cell 3 rfl)
   have ly0 := later_cell hY.lt (hY.cell 0 rfl)
   have ly1 := later_cell hY.lt (hY.cell 1 rfl)
   have ly2 := later_cell hY.lt (hY.cell 2 rfl)
   have ly3 := later_cell hY.lt (hY.cell 3 rfl)
   have lp := later_cell hpb.lt (hpb.cell 0 rfl)
   have ls := later_cell hsb.lt (hsb.cell 0 rfl)
   have lr1 := later_cell hb1 hc1
   have lr2 := later_cell hb2 hc2
   have hd : decide (0 ≤ (m : Int)) = true := decide_eq_true (by omega)
   have hd2 : 0 ≤ (m : Int) := by omega
   have hd3 : decide ((n : Int) < 0) = false := decide_eq_false (by omega)
   have hd4 : ¬ (n : Int) < 0 := by omega
   rw [← hn, ← hm] at HBP ⊢
   clear hva hvb hoa hob hp1 hq1 hal hae hbl hbe hX hY hpb hsb hr hu hq hp hsn hsm hlen1 hlen2 hBP hb1 hc1 hsu1 hb2 hc2 hsu2 hS hT hR1 hR2 hex hn hm
   go_enter Tryz.func68, Tryz.ntmps68
   go_wp2
   refine wp_region_later (by kernel_rfl) (by kernel_rfl) ?_
   repeat (go_big_quiet_step ((exact later_call (HEX.out _))))
   refine wpQuiet_nil ?_
   intro _ hw9
   obtain ⟨nl, hw8⟩ := hw9
   subst hw8
   go_wp2
   go_ret
   exact ⟨decide (0 ≤ ex), rfl, by rw [decide_eq_true_eq]; exact HBP.out.symm, nl.h⟩


theorem setsR_any (lo : Nat) (t : Lts) (lv ev : Value) (w : World) (hv : Valid t) (hsh : Short20 t.labels) (hl : SliceK 1 encS lo w lv t.labels) (he : SliceK 3 encE lo w ev t.edges) (g : Glob w) :
  Calls Tryz.prog 20 #[.agg #[.int .i64 t.states, .int .i64 t.initial, lv, ev]] w fun e w' => Below w.heap.size w w' ∧ ∃ (n0 : Int) (s2 : Option Addr) (m2 k2 : Nat) (s3 : Option Addr) (m3 k3 : Nat) (s4 : Option Addr) (m4 k4 : Nat) (ok : Bool),
   e = .returned (.tuple #[.agg #[.int .i64 n0, .int .i64 0, .slice s2 m2 k2, .slice s3 m3 k3], .slice s4 m4 k4, .bool ok]) ∧ SetsR w.heap.size w' t ok n0 (.slice s2 m2 k2) (.slice s3 m3 k3) (.slice s4 m4 k4) := by
 refine (determinize_any lo t lv ev w hv hsh hl he g).mono ?_
 rintro e w' ⟨hb, ⟨hf, rfl⟩ | ⟨st, lv, vr, ve, hok, rfl, ⟨⟨vs, hiv⟩, he⟩, hl⟩⟩
 ·exact ⟨hb, _, _, _, _, _, _, _, _, _, _, false, rfl, .inl ⟨rfl, hf⟩⟩
 ·obtain ⟨al, cl, rfl, -, -⟩ := owns_slice hl
  obtain ⟨ae, ce, rfl, -, -⟩ := owns_slice he
  obtain ⟨av, cv, rfl, -, -⟩ := owns_slice hiv.2.1
  exact ⟨hb, _, _, _, _, _, _, _, _, _, _, true, rfl, .inr ⟨rfl, st, vs, hok, rfl, ⟨hl, he⟩, hiv⟩⟩

set_option maxRecDepth 100000 in
set_option maxHeartbeats 8000000 in
theorem refinement_any (lo : Nat) (a b : Lts) (la ea lb eb : Value) (w : World) (hva : Valid a) (hvb : Valid b) (hsa : Short20 a.labels) (hsb : Short20 b.labels) (hal : SliceK 1 encS lo w la a.labels) (hae : SliceK 3 encE lo w ea a.edges)
  (hbl : SliceK 1 encS lo w lb b.labels) (hbe : SliceK 3 encE lo w eb b.edges) (g : Glob w) :
  Calls Tryz.prog 30 #[.agg #[.int .i64 a.states, .int .i64 a.initial, la, ea], .agg #[.int .i64 b.states, .int .i64 b.initial, lb, eb]] w fun e w' => ∃ (ok r : Bool) (v1 v2 : Value), e = .returned (.tuple #[.bool r, v1, v2, .bool ok]) ∧ RetRfn a b w w' ok r v1 v2 := by
 obtain ⟨xa, xc, hla, -⟩ := id hal
 obtain ⟨ya, yc, hlb, -⟩ := id hbl
 obtain ⟨n1, hn1⟩ : ∃ n1, n1 = a.labels.length := ⟨_, rfl⟩
 obtain ⟨n2, hn2⟩ : ∃ n2, n2 = b.labels.length := ⟨_, rfl⟩
 rw [← hn1] at hla
 rw [← hn2] at hlb
 clear hn1 hn2
 subst hla hlb
 obtain ⟨p, hp⟩ : ∃ p, p = w.heap.size := ⟨_, rfl⟩
 obtain ⟨W, hW⟩ : ∃ W, W = (w.alloc (.cells #[.int .i64 a.states, .int .i64 a.initial, .slice xa n1 xc, ea] 27)).alloc (.cells #[.int .i64 b.states, .int .i64 b.initial, .slice ya n2 yc, eb] 27) := ⟨_, rfl⟩
 have hB0 : Below w.heap.size w W := by rw [hW]; exact ((Below.refl _ _).alloc (Nat.le_refl _) _).alloc (by simp) _
 have hX : Blk W p [.int .i64 a.states, .int .i64 a.initial, .slice xa n1 xc, ea] 27 := by rw [hW, hp]; exact (Blk.new w _ _).alloc _
 have hY : Blk W (p + 1) [.int .i64 b.states, .int .i64 b.initial, .slice ya n2 yc, eb] 27 := by
  have h := Blk.new (w.alloc (.cells #[.int .i64 a.states, .int .i64 a.initial, .slice xa n1 xc, ea] 27)) [.int .i64 b.states, .int .i64 b.initial, .slice ya n2 yc, eb] 27
  rw [World.size_alloc, ← hp] at h
  rw [hW]
  exact h
 have HDA := Lib.hid (setsR_any lo a (.slice xa n1 xc) ea W hva hsa (hal.below hB0) (hae.below hB0) (g.below hB0))
 have HDB := Lib.hid (fun w' (hb : Below W.heap.size W w') => setsR_any lo b (.slice ya n2 yc) eb w' hvb hsb ((hbl.below hB0).below hb) ((hbe.below hB0).below hb) ((g.below hB0).below hb))
 have HVA := Lib.hid hva
 have HVB := Lib.hid hvb
 have HAL := Lib.hid (hal.below hB0)
 have HAE := Lib.hid (hae.below hB0)
 have HBL := Lib.hid (hbl.below hB0)
 have HBE := Lib.hid (hbe.below hB0)
 have HX := Lib.hid hX
 have HY := Lib.hid hY
 have HB0 := Lib.hid hB0
 have HW := Lib.hid hW
 have HP := Lib.hid hp
 clear hva hvb hsa hsb hal hae hbl hbe g hB0 hX hY hW hp
 go_enter Tryz.func30, Tryz.ntmps30
 go_wp2_with fail
 rw [← HW.out]
 try rw [← HP.out]
 refine Calls.mono HDA.out ?_
 rintro e w1 ⟨hb1, n0, s2, m2, k2, s3, m3, k3, s4, m4, k4, ok1, rfl, hsA⟩
 obtain ⟨p2, hp2⟩ : ∃ p2, p2 = w1.heap.size := ⟨_, rfl⟩
 obtain ⟨W2, hW2⟩ : ∃ W2, W2 = (w1.alloc (.cells #[.int .i64 n0, .int .i64 0, .slice s2 m2 k2, .slice s3 m3 k3] 27)).alloc (.cells #[.slice s4 m4 k4] 31) := ⟨_, rfl⟩
 have hb2 : Below w1.heap.size w1 W2 := by rw [hW2]; exact ((Below.refl _ _).alloc (Nat.le_refl _) _).alloc (by simp) _
 have hX2 : Blk W2 p2 [.int .i64 n0, .int .i64 0, .slice s2 m2 k2, .slice s3 m3 k3] 27 := by rw [hW2, hp2]; exact (Blk.new w1 _ _).alloc _
 have hR2 : Blk W2 (p2 + 1) [.slice s4 m4 k4] 31 := by
  have h := Blk.new (w1.alloc (.cells #[.int .i64 n0, .int .i64 0, .slice s2 m2 k2, .slice s3 m3 k3] 27)) [.slice s4 m4 k4] 31
  rw [World.size_alloc, ← hp2] at h
  rw [hW2]
  exact h
 have hd2 : Below W.heap.size W W2 := hb1.trans (hb2.mono hb1.size)
 have HD2 := Lib.hid hd2
 have HSA := Lib.hid (hsA.below hb2)
 have HX2 := Lib.hid hX2
 have HR2 := Lib.hid hR2
 have HDB2 := Lib.hid (HDB.out W2 hd2)
 have y0 := (HY.out.below hd2).cell 0 rfl
 have y1 := (HY.out.below hd2).cell 1 rfl
 have y2 := (HY.out.below hd2).cell 2 rfl
 have y3 := (HY.out.below hd2).cell 3 rfl
 have hyl := (HY.out.below hd2).lt
 have HW2 := Lib.hid hW2
 have HP2 := Lib.hid hp2
 rw [hW2] at y0 y1 y2 y3 hyl
 clear hb1 hsA hb2 hX2 hR2 hd2 hW2 hp2 HDA HDB
 go_wp2_with fail
 rw [← HW2.out]
 try rw [← HP2.out]
 refine Calls.mono HDB2.out ?_
 rintro e w3 ⟨hb3, q0, t2, i2, j2, t3, i3, j3, t4, i4, j4, ok2, rfl, hsB⟩
 obtain ⟨p4, hp4⟩ : ∃ p4, p4 = w3.heap.size := ⟨_, rfl⟩
 obtain ⟨W4, hW4⟩ : ∃ W4, W4 = (w3.alloc (.cells #[.int .i64 q0, .int .i64 0, .slice t2 i2 j2, .slice t3 i3 j3] 27)).alloc (.cells #[.slice t4 i4 j4] 31) := ⟨_, rfl⟩
 have hb4 : Below w3.heap.size w3 W4 := by rw [hW4]; exact ((Below.refl _ _).alloc (Nat.le_refl _) _).alloc (by simp) _
 have hX4 : Blk W4 p4 [.int .i64 q0, .int .i64 0, .slice t2 i2 j2, .slice t3 i3 j3] 27 := by rw [hW4, hp4]; exact (Blk.new w3 _ _).alloc _
 have hR4 : Blk W4 (p4 + 1) [.slice t4 i4 j4] 31 := by
  have h := Blk.new (w3.alloc (.cells #[.int .i64 q0, .int .i64 0, .slice t2 i2 j2, .slice t3 i3 j3] 27)) [.slice t4 i4 j4] 31
  rw [World.size_alloc, ← hp4] at h
  rw [hW4]
  exact h
 have hb24 : Below W2.heap.size W2 W4 := hb3.trans (hb4.mono hb3.size)
 have hd4 : Below W.heap.size W W4 := HD2.out.trans (hb24.mono HD2.out.size)
 have HD4 := Lib.hid hd4
 have HSA4 := Lib.hid (HSA.out.below hb24)
 have HSB4 := Lib.hid ((hsB.below hb4).lower HD2.out.size)
 have h24 := HX2.out.below hb24
 have HR24 := Lib.hid (HR2.out.below hb24)
 have HR4 := Lib.hid hR4
 have HBW := Lib.hid (HB0.out.trans (hd4.mono HB0.out.size))
 have HW4 := Lib.hid hW4
 have HP4 := Lib.hid hp4
 clear y0 y1 y2 y3 hyl
 cases ok1 with
 | false =>
  have HF : Hid (DFull a) := by
   rcases HSA4.out with ⟨-, h⟩ | ⟨h, -⟩
   ·exact h
   ·cases h
  clear hb3 hsB hb4 hX4 hR4 hb24 hd4 h24 hW4 hp4 HDB2
  go_wp2
  rw [← HW4.out]
  ((try simp only [Exit.inBlock, Exit.then]); refine bodyPost_ret (results_tmp4 rfl _ _ _) rfl ?_)
  exact ⟨false, false, _, _, rfl, HBW.out, .inl ⟨rfl, .inl HF.out⟩⟩
 | true =>
  cases ok2 with
  | false =>
   have HF : Hid (DFull b) := by
    rcases HSB4.out with ⟨-, h⟩ | ⟨h, -⟩
    ·exact h
    ·cases h
   clear hb3 hsB hb4 hX4 hR4 hb24 hd4 h24 hW4 hp4 HDB2
   go_wp2
   rw [← HW4.out]
   ((try simp only [Exit.inBlock, Exit.then]); refine bodyPost_ret (results_tmp4 rfl _ _ _) rfl ?_)
   exact ⟨false, false, _, _, rfl, HBW.out, .inl ⟨rfl, .inr HF.out⟩⟩
  | true =>
   obtain ⟨sa, vs, hoka, rfl, hoa, hra⟩ : ∃ sa vs, DOk a sa ∧ n0 = (dSys a sa).states ∧ OwnLts W.heap.size W4 (.slice s2 m2 k2) (.slice s3 m3 k3) (dSys a sa) ∧ OwnIntss 34 2 W.heap.size W4 (.slice s4 m4 k4) vs sa.rows := by
    rcases HSA4.out with ⟨h, -⟩ | ⟨-, h⟩
    ·cases h
    ·exact h
   obtain ⟨sb, us, hokb, rfl, hob, hrb⟩ : ∃ sb us, DOk b sb ∧ q0 = (dSys b sb).states ∧ OwnLts W.heap.size W4 (.slice t2 i2 j2) (.slice t3 i3 j3) (dSys b sb) ∧ OwnIntss 34 2 W.heap.size W4 (.slice t4 i4 j4) us sb.rows := by
    rcases HSB4.out with ⟨h, -⟩ | ⟨-, h⟩
    ·cases h
    ·exact h
   obtain ⟨f0, hf0⟩ : ∃ f0, f0 = (dSys a sa).states := ⟨_, rfl⟩
   obtain ⟨f1, hf1⟩ : ∃ f1, f1 = (dSys b sb).states := ⟨_, rfl⟩
   have LA : LtsIn W.heap.size W4 (.slice s2 m2 k2) (.slice s3 m3 k3) (dSys a sa) := ⟨SliceK.of_owns (e := 9) encS_len rfl (by rw [flat_encS]; exact hoa.1), SliceK.of_owns (e := 68) encE_len rfl hoa.2⟩
   have LB : LtsIn W.heap.size W4 (.slice t2 i2 j2) (.slice t3 i3 j3) (dSys b sb) := ⟨SliceK.of_owns (e := 9) encS_len rfl (by rw [flat_encS]; exact hob.1), SliceK.of_owns (e := 68) encE_len rfl hob.2⟩
   have HRA := Lib.hid hra
   have HRB := Lib.hid hrb
   have HOKA := Lib.hid hoka
   have HOKB := Lib.hid hokb
   have hask : Asks 68 #[.pointer (some ⟨p, 0, none⟩), .pointer (some ⟨p + 1, 0, none⟩), .pointer (some ⟨p2 + 1, 0, none⟩), .pointer (some ⟨p4 + 1, 0, none⟩)] (dSys a sa) (dSys b sb) (badP a b sa sb) W4 := by
    intro w' hb' x y hx hy hnd _
    have hdw : Below W.heap.size W w' := HD4.out.trans (hb'.mono HD4.out.size)
    exact rf1_any lo W.heap.size p (p + 1) (p2 + 1) (p4 + 1) a b sa sb (.slice xa n1 xc) ea (.slice ya n2 yc) eb (.slice s4 m4 k4) (.slice t4 i4 j4) vs us x y w' HVA.out HVB.out HOKA.out HOKB.out hx.2 hy.2 (HAL.out.below hdw) (HAE.out.below hdw) (HBL.out.below hdw) (HBE.out.below hdw) (HX.out.below hdw) (HY.out.below hdw)
     (HR24.out.below hb') (HR4.out.below hb') (OwnIntss.below HRA.out hb') (OwnIntss.below HRB.out hb')
   have HFI := Lib.hid (firstTrace_any W.heap.size (dSys a sa) (dSys b sb) (.slice s2 m2 k2) (.slice s3 m3 k3) (.slice t2 i2 j2) (.slice t3 i3 j3) 68 #[.pointer (some ⟨p, 0, none⟩), .pointer (some ⟨p + 1, 0, none⟩), .pointer (some ⟨p2 + 1, 0, none⟩), .pointer (some ⟨p4 + 1, 0, none⟩)] (badP a b sa sb) W4 (dSys_valid HVA.out hoka) (dSys_valid HVB.out hokb) (dSys_single HVA.out hoka) (dSys_single HVB.out hokb) rfl rfl LA LB (fun args w => by kernel_rfl) hask)
   rw [show (dSys a sa).initial = 0 from rfl, show (dSys b sb).initial = 0 from rfl] at HFI
   rw [← hf0] at h24 HFI ⊢
   rw [← hf1] at hX4 HFI hW4 HW4 ⊢
   have y0 := h24.cell 0 rfl
   have y1 := h24.cell 1 rfl
   have y2 := h24.cell 2 rfl
   have y3 := h24.cell 3 rfl
   have z0 := hX4.cell 0 rfl
   have z1 := hX4.cell 1 rfl
   have z2 := hX4.cell 2 rfl
   have z3 := hX4.cell 3 rfl
   have hl2 := h24.lt
   have hl4 := hX4.lt
   rw [hW4] at y0 y1 y2 y3 z0 z1 z2 z3 hl2 hl4
   rw [hp4] at z0 z1 z2 z3 hl4
   clear hb3 hsB hb4 hX4 hR4 hb24 hd4 h24 hW4 hp4 HDB2 hoka hokb hoa hob hra hrb LA LB hask hf0 hf1 HSA4 HSB4
   go_wp2_with fail
   rw [← HW4.out]
   try rw [← HP4.out]
   refine Calls.mono HFI.out ?_
   rintro e w7 ⟨hb7, r, xs, v, rfl, hfi, hown⟩
   obtain ⟨av, cv, rfl, -, -⟩ := owns_slice hown
   have hd7 := HD4.out.trans (hb7.mono HD4.out.size)
   have HD7 := Lib.hid hd7
   have HB7 := Lib.hid (HBW.out.trans (hb7.mono HBW.out.size))
   have HO7 : Hid (OwnStrs w.heap.size w7 (.slice av xs.length cv) xs) := own_lower hown HBW.out.size
   have HXL := Lib.hid hfi.1
   have HFB : Hid ((NoWord ((0 : Int), (0 : Int)) (goBoth (dSys a sa) (dSys b sb) (bothL a b)) ((bothL a b).length - 1) (badP a b sa sb) ∧ r = false ∧ xs = []) ∨ ∃ u, Least ((0 : Int), (0 : Int)) (goBoth (dSys a sa) (dSys b sb) (bothL a b)) ((bothL a b).length - 1) (badP a b sa sb) u ∧ r = true ∧ xs = txtsOf (bothL a b) u) := by
    rcases hfi.2 with ⟨h1, h2, h3⟩ | ⟨u, h1, h2, h3⟩
    ·exact .inl ⟨h1.congr fun v _ => badP_alive _, h2, h3⟩
    ·exact .inr ⟨u, h1.congr fun v _ => badP_alive _, h2, h3⟩
   clear y0 y1 y2 y3 z0 z1 z2 z3 hl2 hl4 hfi hown
   cases r with
   | false =>
    have HRB9 : Hid (RefB a b sa sb true [] []) := by
     rcases HFB.out with ⟨h1, -, -⟩ | ⟨u, -, h, -⟩
     ·exact .inl ⟨h1, rfl, rfl, rfl⟩
     ·cases h
    clear hb7 hd7
    go_wp2
    ((try simp only [Exit.inBlock, Exit.then]); refine bodyPost_ret (results_tmp4 rfl _ _ _) rfl ?_)
    exact ⟨true, true, _, _, rfl, HB7.out, .inr ⟨rfl, sa, sb, [], [], HOKA.out, HOKB.out, HRB9.out, Nat.zero_le _, ⟨rfl, .inl ⟨rfl, rfl⟩⟩, ⟨rfl, .inl ⟨rfl, rfl⟩⟩, Far.none _⟩⟩
   | true =>
    obtain ⟨u, hle, hxs⟩ : ∃ u, Least ((0 : Int), (0 : Int)) (goBoth (dSys a sa) (dSys b sb) (bothL a b)) ((bothL a b).length - 1) (badP a b sa sb) u ∧ xs = txtsOf (bothL a b) u := by
     rcases HFB.out with ⟨-, h, -⟩ | ⟨u, h1, -, h2⟩
     ·cases h
     ·exact ⟨u, h1, h2⟩
    have haw := aft_word HVA.out HVB.out HOKA.out HOKB.out (InOrd.set _) u hle.1
    have hrg := difS_range (dSys_valid HVA.out HOKA.out) (dSys_valid HVB.out HOKB.out) (bothL a b) u
    obtain ⟨P, hP⟩ : ∃ P, P = difS (dSys a sa) (dSys b sb) (bothL a b) u := ⟨_, rfl⟩
    have hbp : badP a b sa sb P := by rw [hP]; exact hle.2.1
    have haw1 : aftL a xs = setOf sa P.1 := by rw [hxs, hP]; exact haw.1
    have haw2 : aftL b xs = setOf sb P.2 := by rw [hxs, hP]; exact haw.2
    rw [← hP] at hrg
    have hl1 := setOf_len HVA.out HOKA.out (q := P.1) hrg.1.1
    have hl2 := setOf_len HVB.out HOKB.out (q := P.2) hrg.2.1
    have HLE := Lib.hid hle
    have HXS := Lib.hid hxs
    have HPP := Lib.hid hP
    have HA2 := Lib.hid haw2
    have HL2 := Lib.hid hl2
    obtain ⟨XN, hXN⟩ : ∃ XN, XN = xs.length := ⟨_, rfl⟩
    have HXN := Lib.hid hXN
    have HOX : Hid (OwnStrs w.heap.size w7 (.slice av XN cv) xs) := by unfold Hid; rw [hXN]; exact HO7.out
    have HXL2 : Hid (XN ≤ 2000) := by unfold Hid; rw [hXN]; exact HXL.out
    rw [← hXN]
    have HAF := Lib.hid (after_any lo w.heap.size a (.slice xa n1 xc) ea (.slice av XN cv) xs w7 HVA.out (HAL.out.below hd7) (HAE.out.below hd7) HOX.out.at (by rw [← HXN.out]; have := HXL2.out; omega))
    rw [haw1] at HAF
    have x0 := (HX.out.below hd7).cell 0 rfl
    have x1 := (HX.out.below hd7).cell 1 rfl
    have x2 := (HX.out.below hd7).cell 2 rfl
    have x3 := (HX.out.below hd7).cell 3 rfl
    clear hb7 hd7 hle hxs haw hP haw1 haw2 hXN hl2 HO7 HXL HFB
    go_wp2_with fail
    refine Calls.mono HAF.out ?_
    rintro e w8 ⟨v8, rfl, hb8, ho8⟩
    obtain ⟨ba, bc, rfl, -, -⟩ := owns_slice ho8
    have hd8 := HD7.out.trans (hb8.mono HD7.out.size)
    have HD8 := Lib.hid hd8
    have HB8 := Lib.hid (HB7.out.trans (hb8.mono HB7.out.size))
    have HO8 := Lib.hid (HOX.out.below hb8)
    clear x0 x1 x2 x3
    by_cases hneg : P.1 < 0
    ·have hnil := setOf_neg (st := sa) hneg
     rw [hnil]
     have HRB9 : Hid (RefB a b sa sb false xs []) := by
      refine .inr ⟨u, HLE.out, rfl, HXS.out, ?_⟩
      rw [← HPP.out]
      unfold refL
      rw [if_pos hneg]
     clear hb8 ho8 hd8 hnil hneg hl1 hrg hbp
     simp only [List.length_nil]
     go_wp2
     ((try simp only [Exit.inBlock, Exit.then]); refine bodyPost_ret (results_tmp4 rfl _ _ _) rfl ?_)
     exact ⟨true, false, _, _, rfl, HB8.out, .inr ⟨rfl, sa, sb, xs, [], HOKA.out, HOKB.out, HRB9.out, by rw [← HXN.out]; exact HXL2.out, HO8.out, ⟨rfl, .inl ⟨rfl, rfl⟩⟩, fun g _ h => by cases h⟩⟩
    ·have hsome := set_some HVA.out HOKA.out (q := P.1) (by omega) hrg.1.1
     obtain ⟨S, hS⟩ : ∃ S, S = setOf sa P.1 := ⟨_, rfl⟩
     rw [← hS] at hsome hl1 ho8 ⊢
     have hS1 : 0 < S.length := List.length_pos_iff.2 hsome
     have hex : 0 ≤ excL a b S (setOf sb P.2) := by
      rw [hS]
      exact hbp.2.elim (fun h => absurd h hneg) id
     have HSK : Hid (SliceK 1 encI w7.heap.size w8 (.slice ba S.length bc) S) := SliceK.of_owns (e := 2) encI_len rfl (by rw [flat_encI]; exact ho8)
     obtain ⟨SN, hSN⟩ : ∃ SN, SN = S.length := ⟨_, rfl⟩
     rw [← hSN] at hS1 hl1 HSK ⊢
     have hs0 : ((SN : Int) == 0) = false := by rw [beq_eq_false_iff_ne]; omega
     have hs1 : ¬ (SN : Int) = 0 := by omega
     have HSN := Lib.hid hSN
     have HSS := Lib.hid hS
     have HEXP := Lib.hid hex
     have HL1 := Lib.hid hl1
     have HNEG := Lib.hid hneg
     have hDD : Below w8.heap.size w8 w8.drew := (Below.refl _ _).drew
     have HDD := Lib.hid hDD
     have hdD : ∀ w', Below w8.heap.size w8 w' → Below W.heap.size W w' := fun w' hb => HD8.out.trans (hb.mono HD8.out.size)
     have HDW := Lib.hid hdD
     have HSW : Hid (∀ w', Below w8.heap.size w8 w' → w'.cell? ⟨p, 0, none⟩ = some (.int .i64 a.states) ∧ w'.cell? ⟨p, 1, none⟩ = some (.int .i64 a.initial) ∧ w'.cell? ⟨p, 2, none⟩ = some (.slice xa n1 xc) ∧ w'.cell? ⟨p, 3, none⟩ = some ea ∧ w'.cell? ⟨p + 1, 0, none⟩ = some (.int .i64 b.states) ∧ w'.cell? ⟨p + 1, 1, none⟩ = some (.int .i64 b.initial) ∧ w'.cell? ⟨p + 1, 2, none⟩ = some (.slice ya n2 yc) ∧ w'.cell? ⟨p + 1, 3, none⟩ = some eb) := fun w' hb =>
      ⟨(HX.out.below (hdD w' hb)).cell 0 rfl, (HX.out.below (hdD w' hb)).cell 1 rfl, (HX.out.below (hdD w' hb)).cell 2 rfl, (HX.out.below (hdD w' hb)).cell 3 rfl, (HY.out.below (hdD w' hb)).cell 0 rfl, (HY.out.below (hdD w' hb)).cell 1 rfl, (HY.out.below (hdD w' hb)).cell 2 rfl, (HY.out.below (hdD w' hb)).cell 3 rfl⟩
     have HAF2 := Lib.hid (after_any lo w.heap.size b (.slice ya n2 yc) eb (.slice av XN cv) xs w8.drew HVB.out (HBL.out.below (hdD _ hDD)) (HBE.out.below (hdD _ hDD)) (HO8.out.below hDD).at (by rw [← HXN.out]; have := HXL2.out; omega))
     rw [HA2.out] at HAF2
     have HXC : Hid (∀ w' v', Below w8.heap.size w8 w' → SliceK 1 encI w8.drew.heap.size w' v' (setOf sb P.2) → Calls Tryz.prog 69 #[.agg #[.int .i64 a.states, .int .i64 a.initial, .slice xa n1 xc, ea], .agg #[.int .i64 b.states, .int .i64 b.initial, .slice ya n2 yc, eb], .slice ba SN bc, v'] w' fun e w'' => e = .returned (.int .i64 (excL a b S (setOf sb P.2))) ∧ Below w'.heap.size w' w'') := fun w' v' hb hs =>
      excess_any lo _ _ a b _ _ _ _ _ _ S (setOf sb P.2) w' HVA.out HVB.out (HAL.out.below (hdD _ hb)) (HAE.out.below (hdD _ hb)) (HBL.out.below (hdD _ hb)) (HBE.out.below (hdD _ hb)) (HSK.out.below hb) hs (by rw [← HSN.out]; have := HL1.out; omega) (by have := HL2.out; omega)
     obtain ⟨kx, hkx⟩ : ∃ kx, kx = excL a b S (setOf sb P.2) := ⟨_, rfl⟩
     rw [← hkx] at HXC
     have HKX := Lib.hid hkx
     clear hb8 ho8 hd8 hsome hS1 hl1 hex hSN hS hneg hDD hdD hkx hrg hbp
     go_wp2
     go_region_held3 (fun w' => w'.cell? ⟨p, 0, none⟩ = some (.int .i64 a.states) ∧ w'.cell? ⟨p, 1, none⟩ = some (.int .i64 a.initial) ∧ w'.cell? ⟨p, 2, none⟩ = some (.slice xa n1 xc) ∧ w'.cell? ⟨p, 3, none⟩ = some ea ∧ w'.cell? ⟨p + 1, 0, none⟩ = some (.int .i64 b.states) ∧ w'.cell? ⟨p + 1, 1, none⟩ = some (.int .i64 b.initial) ∧ w'.cell? ⟨p + 1, 2, none⟩ = some (.slice ya n2 yc) ∧ w'.cell? ⟨p + 1, 3, none⟩ = some eb)
      (first
       | exact HSW.out _ (Below.refl _ _)
       | exact HSW.out _ HDD.out
       | exact HSW.out _ hq1
       | exact HSW.out _ hq2
       | go_keep)
      (first
       | (go_at_call 19; refine Calls.mono HAF2.out ?_; rintro e w9 ⟨v9, rfl, hb9, ho9⟩; have hq1 : Below w8.heap.size w8 w9 := HDD.out.trans (hb9.mono (by simp)))
       | (go_at_call 69; refine Calls.mono (HXC.out _ _ hq1 (SliceK.of_owns (enc := encI) encI_len rfl (by rw [flat_encI]; exact ho9))) ?_; rintro e w10 ⟨rfl, hb10⟩; have hq2 : Below w8.heap.size w8 w10 := hq1.trans (hb10.mono hq1.size))
       | fail)
     all_goals (
      have hdA := HDW.out _ hq2
      have HDA9 := Lib.hid hdA
      have HB10 := Lib.hid (HB8.out.trans (hq2.mono HB8.out.size))
      have HO10 := Lib.hid (HO8.out.below hq2)
      have x2 := (HX.out.below hdA).cell 2 rfl
      have y2 := (HY.out.below hdA).cell 2 rfl
      obtain ⟨W11, hW11⟩ : ∃ W11, W11 = w10.alloc (.cells #[.slice xa n1 xc, .slice ya n2 yc] 24) := ⟨_, rfl⟩
      have hb11 : Below w10.heap.size w10 W11 := by rw [hW11]; exact (Below.refl _ _).alloc (Nat.le_refl _) _
      have hd11 := hdA.trans (hb11.mono hdA.size)
      have HCAT := Lib.hid (ConcatS_two lo (.slice xa n1 xc) (.slice ya n2 yc) a.labels b.labels W11 (HAL.out.below hd11) (HBL.out.below hd11) HVA.out.labels.pos HVB.out.labels.pos (by have := HVA.out.labels.most; have := HVB.out.labels.most; omega) w10.heap.size (by rw [hW11]; exact Blk.new w10 _ _))
      have HB11 := Lib.hid (HB10.out.trans (hb11.mono HB10.out.size))
      have HD11 := Lib.hid hd11
      have HO11 := Lib.hid (HO10.out.below hb11)
      have HW11 := Lib.hid hW11
      clear hb9 ho9 hq1 hb10 hq2 hdA hW11 hb11 hd11
      go_wp2_with fail
      rw [← HW11.out]
      refine Calls.mono HCAT.out ?_
      rintro e w12 ⟨cv2, rfl, hb12, ho12⟩
      have HLTS := Lib.hid (lts_any 0 1 0 (a.labels ++ b.labels) [] cv2 (.slice none 0 0) w12 (SrcS.of_own ho12) ⟨none, 0, rfl, Nat.le_refl _, by omega, .inl rfl⟩ (by rw [List.length_append]; have := HVA.out.labels.most; have := HVB.out.labels.most; omega) (by simp) (bothL a b) rfl (by simp) List.Pairwise.nil)
      have hd12 := HD11.out.trans (hb12.mono HD11.out.size)
      have HD12 := Lib.hid hd12
      have HB12 := Lib.hid (HB11.out.trans (hb12.mono HB11.out.size))
      have HO12 := Lib.hid (HO11.out.below hb12)
      clear hb12 ho12 hd12 HCAT x2 y2
      go_wp2_with fail
      refine Calls.mono HLTS.out ?_
      rintro e w13 ⟨lv, ev, rfl, hb13, hol, hoe⟩
      obtain ⟨ae9, ce9, rfl, -, -⟩ := owns_slice hoe
      simp only [List.map_nil, List.length_nil]
      obtain ⟨bl, cl, rfl, hblB, hblw⟩ := hol.form (bothL_pos a b)
      obtain ⟨LL, hLL⟩ : ∃ LL, LL = (bothL a b).length := ⟨_, rfl⟩
      have hLpos : 1 ≤ LL := by rw [hLL]; exact bothL_pos a b
      have hL25 : LL ≤ 25 := by rw [hLL]; exact bothL_few HVA.out HVB.out
      have hcl1 : LL ≤ cl := by
       obtain ⟨a9, c9, e9, h1, -⟩ := owns_slice hol
       simp only [Value.slice.injEq] at e9
       omega
      have hsk : SliceK 1 encS w12.heap.size w13 (.slice (some ⟨bl, 0, none⟩) LL cl) (bothL a b) := by
       rw [hLL]
       exact SliceK.of_owns (e := 9) encS_len rfl (by rw [flat_encS]; exact hol)
      rw [← hLL]
      obtain ⟨pk, hpk⟩ : ∃ pk, pk = (if cl = 1 then (⟨bl, 0, none⟩ : Addr) else (⟨bl, 0, none⟩ : Addr).add 1) := ⟨_, rfl⟩
      have HLD := Lib.hid (hsk.drop1 hLpos hpk)
      have hsl := slice_from 24 9 1 Tryz.underlying24 (fun _ => by kernel_rfl) ⟨bl, 0, none⟩ LL cl hLpos
      rw [← hpk] at hsl
      have hfl := field_labels 1 0 (some ⟨bl, 0, none⟩) LL cl (.slice ae9 0 ce9)
      have hd13 := HD12.out.trans (hb13.mono HD12.out.size)
      have HD13 := Lib.hid hd13
      have HB13 := Lib.hid (HB12.out.trans (hb13.mono HB12.out.size))
      have HO13 := Lib.hid (HO12.out.below hb13)
      have HDL : Hid (((bothL a b).drop 1).length ≤ 1048576) := by unfold Hid; rw [List.length_drop, ← hLL]; omega
      have z0 := (HY.out.below hd13).cell 0 rfl
      have z1 := (HY.out.below hd13).cell 1 rfl
      have z2 := (HY.out.below hd13).cell 2 rfl
      have z3 := (HY.out.below hd13).cell 3 rfl
      have HRL := Lib.hid (readyLabels_any lo b (.slice ya n2 yc) eb kx w13 HVB.out (HBL.out.below hd13) (HBE.out.below hd13))
      clear hb13 hol hoe hblB hblw hLL hcl1 hsk hpk hd13 HLTS
      go_wp2_with fail
      refine Calls.mono HRL.out ?_
      rintro e w14 ⟨v14, rfl, hb14, ho14⟩
      have HLK := Lib.hid (lacking_any w12.heap.size w13.heap.size (.slice (some pk) (LL - 1) (cl - 1)) v14 ((bothL a b).drop 1) (rdy b kx) w14 (HLD.out.below hb14) ho14.at HDL.out)
      have HB14 := Lib.hid (HB13.out.trans (hb14.mono HB13.out.size))
      have HO14 := Lib.hid (HO13.out.below hb14)
      clear hb14 ho14 hsl hfl HRL z0 z1 z2 z3
      go_wp2_with fail
      refine Calls.mono HLK.out ?_
      rintro e w15 ⟨v15, rfl, hb15, ho15⟩
      have HB15 := Lib.hid (HB14.out.trans (hb15.mono HB14.out.size))
      have HO15 := Lib.hid (HO14.out.below hb15)
      have HFAR : Hid (Far (.slice av XN cv) v15) := Far.later HO14.out ho15 (Nat.le_refl _)
      have HOY : Hid (OwnStrs w.heap.size w15 v15 (lackL ((bothL a b).drop 1) (rdy b kx))) := OwnStrs.lower ho15 HB14.out.size
      have HRB9 : Hid (RefB a b sa sb false xs (lackL ((bothL a b).drop 1) (rdy b kx))) := by
       refine .inr ⟨u, HLE.out, rfl, HXS.out, ?_⟩
       rw [← HPP.out]
       unfold refL
       rw [if_neg (by have := HNEG.out; omega), HKX.out, HSS.out]
      clear hb15 ho15 HLK
      go_wp2
      ((try simp only [Exit.inBlock, Exit.then]); refine bodyPost_ret (results_tmp4 rfl _ _ _) rfl ?_)
      exact ⟨true, false, _, _, rfl, HB15.out, .inr ⟨rfl, sa, sb, xs, _, HOKA.out, HOKB.out, HRB9.out, by rw [← HXN.out]; exact HXL2.out, HO15.out, HOY.out, HFAR.out⟩⟩)

end Go.Proofs.YthofaoabgbgbdaaGreatDoor
