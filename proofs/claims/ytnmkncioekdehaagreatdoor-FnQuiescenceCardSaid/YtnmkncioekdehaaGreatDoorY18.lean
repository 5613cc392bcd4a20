/-
  The reference's l28Suspend.
  The reference's SuspensionLts where the suspended system is too large; its ValidLts at a valid system; how long bytes are.
-/
import Derived.Test.YtnmkncioekdehaaGreatDoorY17
import Derived.Test.YtnmkncioekdehaaGreatDoorY3
import Derived.Test.YtnmkncioekdehaaGreatDoorY16
import Derived.Test.YtnmkncioekdehaaGreatDoorY15
import Derived.Test.YtnmkncioekdehaaGreatDoorY9
import Derived.Test.YtnmkncioekdehaaGreatDoorY1
namespace Go.Proofs.YtnmkncioekdehaaGreatDoor
open Go Go.RowKit


theorem info_strP : (Tryz.prog.info? 9).map (fun i => (i.zero, i.size, i.bytes)) = some (some (.string ⟨#[]⟩), 1, 16) := by kernel_rfl

theorem susL_shortS {t : Lts} (h : Short t.labels) : Short (susL t) := by
 intro i hi
 rcases (susL_mem _).1 (List.getElem_mem hi) with e | e | e
 ·rw [e]; decide
 ·obtain ⟨j, hj, e2⟩ := List.mem_iff_getElem.1 e
  rw [← e2]; exact h j hj
 ·rw [e]; decide

set_option maxRecDepth 100000 in
set_option maxHeartbeats 4000000 in
theorem l28Suspend_any (p lo : Nat) (t : Lts) (v : Value) (ins : List ByteArray) (w : World) (h : IfOk t ins) (hsh : Short t.labels) (hp : LtsPtr lo w p t) (hi : SliceK 1 encS lo w v ins) : Calls Tryz.prog 21 #[.pointer (some ⟨p, 0, none⟩), v] w (RetSp t ins w) := by
 obtain ⟨i1, hi1, hz10, hz11, hz12⟩ := info_parts info_strP
 obtain ⟨i0, hi0, hz0, hz1, hz2⟩ := info_parts info_edgeP
 have hv := h.valid
 obtain ⟨B, hB⟩ : ∃ B, B = w.heap.size := ⟨_, rfl⟩
 obtain ⟨wA, hwA⟩ : ∃ wA, wA = w.alloc (.cells #[.int .i64 0, .int .i64 0, .slice none 0 0, .slice none 0 0] 27) := ⟨_, rfl⟩
 have hbA : Below B w wA := by rw [hwA, hB]; exact (Below.refl _ _).alloc (Nat.le_refl _) _
 have hsA : wA.heap.size = B + 1 := by rw [hwA, hB]; simp
 have hR : Blk wA B [.int .i64 0, .int .i64 0, .slice none 0 0, .slice none 0 0] 27 := by rw [hwA, hB]; exact Blk.new w _ _
 obtain ⟨lv, ev, hpl, q0, q1, q2, q3, hl, he⟩ := id hp
 obtain ⟨la, lc, rfl, -⟩ := id hl
 obtain ⟨ea, ec, rfl, -⟩ := id he
 obtain ⟨LN, hLN⟩ : ∃ LN, LN = t.labels.length := ⟨_, rfl⟩
 obtain ⟨EN, hEN⟩ : ∃ EN, EN = t.edges.length := ⟨_, rfl⟩
 obtain ⟨SN, hSN⟩ : ∃ SN : Nat, (SN : Int) = t.states := ⟨t.states.toNat, by have := hv.st0; omega⟩
 have hL12 : LN ≤ 12 := by rw [hLN]; exact hv.labels.most
 have hE300 : EN ≤ 300 := by rw [hEN]; exact hv.most
 have hS40 : SN ≤ 40 := by have := hv.st1; omega
 have hpB : p < B := by rw [hB]; exact hpl
 rw [← hLN] at q2 hl
 rw [← hEN] at q3 he
 rw [← hSN] at q0
 have HIF := Lib.hid h
 have HSH := Lib.hid hsh
 have HP := Lib.hid hp
 have HI := Lib.hid hi
 have HL := Lib.hid hl
 have HE := Lib.hid he
 have HQ0 := Lib.hid q0
 have HQ1 := Lib.hid q1
 have HQ2 := Lib.hid q2
 have HQ3 := Lib.hid q3
 have HLN := Lib.hid hLN
 have HEN := Lib.hid hEN
 have HSN := Lib.hid hSN
 have HB := Lib.hid hB
 have HBA := Lib.hid hbA
 have HR := Lib.hid hR
 have HSA := Lib.hid hsA
 have HWA := Lib.hid hwA
 -- the empty list of texts
 obtain ⟨wB, hwB⟩ : ∃ wB, wB = wA.alloc (.cells #[] 9) := ⟨_, rfl⟩
 have HBB : Hid (Below B w wB) := by unfold Hid; rw [hwB]; exact hbA.alloc (by omega) _
 have HOB : Hid (wB.ownsRow B 9 1 (.slice (some ⟨w.heap.size + 1, 0, none⟩) 0 0) 0 []) := by
  unfold Hid
  have h := World.ownsRow_lit (base := B) (e := 9) (size := 1) wA #[] 0 (by omega) (by simp [maxLen]) rfl
  rw [hsA, hB] at h
  rw [hwB, hB]
  exact h
 have HRB : Hid (Blk wB B [.int .i64 0, .int .i64 0, .slice none 0 0, .slice none 0 0] 27) := by unfold Hid; rw [hwB]; exact hR.alloc _
 have HSL : Hid (SrcS wB (.slice la LN lc) t.labels) := SrcS.of_slice ((HL.out).below (HB.out ▸ HBB.out)) hv.labels.pos
 have hsB : B ≤ wB.heap.size := by rw [hwB]; simp; omega
 have HWB := Lib.hid hwB
 have b2 : wB.cell? ⟨p, 2, none⟩ = some (.slice la LN lc) := keeps HBB.out hpB HQ2.out
 rw [hwB, hwA] at b2
 clear h hsh hp hi hl he q0 q1 q2 q3 hLN hEN hSN hwA hbA hsA hR hwB hv hpl hB
 go_enter Tryz.func21, Tryz.ntmps21
 go_wp2_with (at_builtin; refine append_src rfl _ _ 24 rfl B 9 i1 (.string ⟨#[]⟩) 16 Tryz.underlying24 hi1 hz10 hz11 hz12 rfl _ 0 _ rfl (by rw [← HWA.out, ← HWB.out]; exact HOB.out) t.labels (by rw [← HWA.out, ← HWB.out]; exact HSL.out) ?c3 ?c4 ?c5 ?_)
 case c3 => have := HLN.out; simp [maxLen]; omega
 case c4 => have := HLN.out; omega
 case c5 => rw [← HWA.out, ← HWB.out]; exact hsB
 rw [← HWA.out, ← HWB.out]
 intro v6 w6 ho6 hg6
 have HB6 : Hid (Below B w w6) := HBB.out.grown hg6 hsB (fun b e => (HOB.out.lt b e).1)
 have HR6 : Hid (Blk w6 B [.int .i64 0, .int .i64 0, .slice none 0 0, .slice none 0 0] 27) := (hg6.block B HRB.out.lt (blk_own_neL HRB.out HOB.out (by decide))).trans HRB.out
 have hs6 : B ≤ w6.heap.size := Nat.le_trans hsB hg6.size
 have HO6 : Hid (w6.ownsRow B 9 1 v6 LN (t.labels.map Value.string)) := by unfold Hid; rw [HLN.out]; simpa using ho6
 obtain ⟨a6, c6, rfl, -, -⟩ := owns_slice ho6
 clear ho6 hg6 b2
 go_wp2_with (at_builtin; refine wpList_append_own _ rfl _ _ 24 rfl B 9 i1 (.string ⟨#[]⟩) 1 16 Tryz.underlying24 hi1 hz10 hz11 hz12 rfl (by decide) _ LN _ rfl (HO6.out.alloc _) ⟨w6.heap.size, 0, none⟩ 1 1 [.string ⟨#[100, 101, 108, 116, 97]⟩] rfl rfl ?d1 ?d2 ?d3 ?d4 ?d5 ?_)
 case d1 => exact World.news_of_block (cs := #[.string ⟨#[100, 101, 108, 116, 97]⟩]) (t := 9) (fr := (0, 0)) (heap_alloc_new _ _)
 case d2 => intro u hu; simp at hu; subst hu; rfl
 case d3 => simp [maxLen]; omega
 case d4 => omega
 case d5 => first | omega | (simp; omega)
 intro v7 w7 ho7 hg7 _
 have HB7 : Hid (Below B w w7) := (HB6.out.alloc hs6 _).grown hg7 (by simp; omega) (fun b e => (HO6.out.lt b e).1)
 have HR7 : Hid (Blk w7 B [.int .i64 0, .int .i64 0, .slice none 0 0, .slice none 0 0] 27) := (hg7.block B (HR6.out.alloc (.cells #[.string ⟨#[100, 101, 108, 116, 97]⟩] 9)).lt (blk_own_neL HR6.out HO6.out (by decide))).trans (HR6.out.alloc _)
 have hs7 : B ≤ w7.heap.size := by have := hg7.size; simp at this; omega
 have HO7 : Hid (w7.ownsRow B 9 1 v7 (LN + 1) ((t.labels ++ [deltaT]).map Value.string)) := by unfold Hid; rw [List.map_append]; exact ho7
 obtain ⟨a7, c7, rfl, -, -⟩ := owns_slice ho7
 -- the empty list of edges
 obtain ⟨wC, hwC⟩ : ∃ wC, wC = w7.alloc (.cells #[] 47) := ⟨_, rfl⟩
 have HBC : Hid (Below B w wC) := by unfold Hid; rw [hwC]; exact HB7.out.alloc hs7 _
 have HOC : Hid (wC.ownsRow B 47 3 (.slice (some ⟨w7.heap.size, 0, none⟩) 0 0) 0 []) := by unfold Hid; rw [hwC]; exact World.ownsRow_lit (size := 3) w7 #[] 0 hs7 (by simp [maxLen]) rfl
 have HRC : Hid (Blk wC B [.int .i64 0, .int .i64 0, .slice none 0 0, .slice none 0 0] 27) := by unfold Hid; rw [hwC]; exact HR7.out.alloc _
 have HTC : Hid (wC.ownsRow B 9 1 (.slice a7 (LN + 1) c7) (LN + 1) ((t.labels ++ [deltaT]).map Value.string)) := by unfold Hid; rw [hwC]; exact HO7.out.alloc _
 have hsC : B ≤ wC.heap.size := by rw [hwC]; simp; omega
 have HEC : Hid (SliceK 3 encE lo wC (.slice ea EN ec) t.edges) := HE.out.below (HB.out ▸ HBC.out)
 have HWC := Lib.hid hwC
 have b3 : wC.cell? ⟨p, 3, none⟩ = some (.slice ea EN ec) := keeps HBC.out hpB HQ3.out
 rw [hwC] at b3
 clear ho7 hg7 hwC HO6 HR6 HB6
 go_wp2_with (at_builtin; refine append_edges rfl _ _ 25 rfl B 47 i0 _ 24 Tryz.underlying25 hi0 hz0 hz1 hz2 rfl _ 0 _ rfl (by rw [← HWC.out]; exact HOC.out) lo t.edges (by rw [← HWC.out]; exact HEC.out) ?e3 ?e4 ?e5 ?_)
 case e3 => have := HEN.out; simp [maxLen]; omega
 case e4 => have := HEN.out; omega
 case e5 => rw [← HWC.out]; exact hsC
 rw [← HWC.out]
 intro v8 w8 ho8 hg8
 have HB8 : Hid (Below B w w8) := HBC.out.grown hg8 hsC (fun b e => (HOC.out.lt b e).1)
 have HR8 : Hid (Blk w8 B [.int .i64 0, .int .i64 0, .slice none 0 0, .slice none 0 0] 27) := (hg8.block B HRC.out.lt (blk_own_neL HRC.out HOC.out (by decide))).trans HRC.out
 have HT8 : Hid (w8.ownsRow B 9 1 (.slice a7 (LN + 1) c7) (LN + 1) ((t.labels ++ [deltaT]).map Value.string)) := HTC.out.kept hg8 (own_types HTC.out HOC.out (by decide))
 have HE8 : Hid (w8.ownsRow B 47 3 v8 (susTo t ins 0).length ((susTo t ins 0).flatMap encE)) := by unfold Hid; rw [susTo_zero]; simpa using ho8
 clear ho8 hg8 b3 HOC HRC HTC HBC
 go_wp2
 go_loopw [7, 8] (fun v7 v8 wr => ∃ k : Nat, k ≤ SN ∧ v8 = .int .i64 k ∧ Below B w wr ∧ Blk wr B [.int .i64 0, .int .i64 0, .slice none 0 0, .slice none 0 0] 27 ∧ wr.ownsRow B 9 1 (.slice a7 (LN + 1) c7) (LN + 1) ((t.labels ++ [deltaT]).map Value.string) ∧ wr.ownsRow B 47 3 v7 (susTo t ins k).length ((susTo t ins k).flatMap encE)) (fun _ v8 _ => SN - (intOf v8).toNat)
 case atStart => exact ⟨0, Nat.zero_le _, rfl, HB8.out, HR8.out, HT8.out, HE8.out⟩
 case round =>
  obtain ⟨k, hk, rfl, hbl, hrb, hot, hoe⟩ := hrel
  have HBL := Lib.hid hbl
  have HRL := Lib.hid hrb
  have HOT := Lib.hid hot
  have HOE := Lib.hid hoe
  have hszr : B ≤ wr.heap.size := by rw [HB.out]; exact hbl.size
  have c0 := keeps hbl hpB HQ0.out
  obtain ⟨va, vc, rfl, -, -⟩ := owns_slice hoe
  have hlen := susTo_len t ins k
  obtain ⟨CN, hCN⟩ : ∃ CN, CN = (susTo t ins k).length := ⟨_, rfl⟩
  rw [← hCN] at HOE hlen ⊢
  have hC340 : CN ≤ 340 := by have := HEN.out; omega
  have HCN := Lib.hid hCN
  by_cases hlt : k < SN
  ·have HQU := Lib.hid (l28Quiet_any p lo t v ins k wr HIF.out.valid HSH.out (HP.out.below (HB.out ▸ hbl)) (HI.out.below (HB.out ▸ hbl)))
   have HNX := Lib.hid (susTo_succ t ins k)
   obtain ⟨qb, hqb⟩ : ∃ qb, qb = quietB t ins k := ⟨_, rfl⟩
   rw [← hqb] at HQU HNX
   have hlt2 : (k : Int) < (SN : Int) := by omega
   clear hbl hrb hot hoe hCN hqb hlen
   cases qb
   ·have HN2 : Hid (susTo t ins (k + 1) = susTo t ins k) := by unfold Hid; rw [HNX.out]; rfl
    go_wp2_with fail
    refine Calls.mono HQU.out ?_
    rintro e w1 ⟨rfl, hb1⟩
    have HB1 : Hid (Below B w w1) := HBL.out.trans (hb1.mono hszr)
    have HR1 := Lib.hid (HRL.out.below hb1)
    have HT1 := Lib.hid (owns_below HOT.out hb1)
    have HE1 := Lib.hid (owns_below HOE.out hb1)
    clear hb1 HQU c0
    go_wp2
    go_roundw
    case rel => exact ⟨k + 1, by omega, by go_num, HB1.out, HR1.out, HT1.out, by rw [HN2.out, ← HCN.out]; exact HE1.out⟩
    case measure => simp [intOf]; omega
   ·have HN2 : Hid (susTo t ins (k + 1) = susTo t ins k ++ [⟨k, (LN : Int), k⟩]) := by unfold Hid; rw [HNX.out, HLN.out]; rfl
    go_wp2_with fail
    refine Calls.mono HQU.out ?_
    rintro e w1 ⟨rfl, hb1⟩
    have hs1 : B ≤ w1.heap.size := Nat.le_trans hszr hb1.size
    have HB1 : Hid (Below B w w1) := HBL.out.trans (hb1.mono hszr)
    have HR1 := Lib.hid (HRL.out.below hb1)
    have HT1 := Lib.hid (owns_below HOT.out hb1)
    have HE1 := Lib.hid (owns_below HOE.out hb1)
    clear hb1 HQU c0
    go_wp2_with (at_builtin; refine wpList_append_own _ rfl _ _ 25 rfl B 47 i0 _ 3 24 Tryz.underlying25 hi0 hz0 hz1 hz2 rfl (by decide) _ CN _ rfl (HE1.out.alloc _) ⟨w1.heap.size, 0, none⟩ 1 1 [.int .i64 k, .int .i64 LN, .int .i64 k] rfl rfl ?f1 ?f2 ?f3 ?f4 ?f5 ?_)
    case f1 => exact World.news_of_block (cs := #[.int .i64 k, .int .i64 LN, .int .i64 k]) (t := 47) (fr := (0, 0)) (by first | exact heap_alloc_new _ _ | (simp; done))
    case f2 => intro u hu; simp at hu; rcases hu with rfl | rfl | rfl <;> rfl
    case f3 => simp [maxLen]; omega
    case f4 => omega
    case f5 => first | omega | (simp; omega)
    intro v9 w9 ho9 hg9 _
    have HB9 : Hid (Below B w w9) := (HB1.out.alloc hs1 _).grown hg9 (by simp; omega) (fun b e => (HE1.out.lt b e).1)
    have HR9 : Hid (Blk w9 B [.int .i64 0, .int .i64 0, .slice none 0 0, .slice none 0 0] 27) := (hg9.block B (HR1.out.alloc (.cells #[.int .i64 k, .int .i64 LN, .int .i64 k] 47)).lt (blk_own_neL HR1.out HE1.out (by decide))).trans (HR1.out.alloc _)
    have HT9 : Hid (w9.ownsRow B 9 1 (.slice a7 (LN + 1) c7) (LN + 1) ((t.labels ++ [deltaT]).map Value.string)) := (HT1.out.alloc (.cells #[.int .i64 k, .int .i64 LN, .int .i64 k] 47)).kept hg9 (own_types (HT1.out.alloc (.cells #[.int .i64 k, .int .i64 LN, .int .i64 k] 47)) (HE1.out.alloc (.cells #[.int .i64 k, .int .i64 LN, .int .i64 k] 47)) (by decide))
    have HE9 : Hid (w9.ownsRow B 47 3 v9 (susTo t ins (k + 1)).length ((susTo t ins (k + 1)).flatMap encE)) := by
     unfold Hid
     rw [HN2.out, List.length_append, List.flatMap_append, ← HCN.out]
     exact ho9
    clear ho9 hg9
    go_wp2
    go_roundw
    case rel => exact ⟨k + 1, by omega, by go_num, HB9.out, HR9.out, HT9.out, HE9.out⟩
    case measure => simp [intOf]; omega
  ·obtain rfl : k = SN := by omega
   have HALLE : Hid (susTo t ins k = susEs t ins) := by unfold Hid; rw [← susTo_all]; congr 1; have := HSN.out; omega
   obtain ⟨WE, hWE⟩ : ∃ WE, WE = wr := ⟨_, rfl⟩
   rw [← hWE] at HBL HRL HOT HOE hszr c0 ⊢
   have hpW : p < WE.heap.size := Nat.lt_of_lt_of_le hpB hszr
   have c1 := keeps HBL.out hpB HQ1.out
   have HC0 := Lib.hid c0
   have HC1 := Lib.hid c1
   have HSW : Hid (∀ w', Below WE.heap.size WE w' → w'.cell? ⟨p, 0, none⟩ = some (.int .i64 k) ∧ w'.cell? ⟨p, 1, none⟩ = some (.int .i64 t.initial)) := fun w' hb => ⟨keeps hb hpW HC0.out, keeps hb hpW HC1.out⟩
   have hD : Below WE.heap.size WE WE.drew := (Below.refl _ _).drew
   have hDA : ∀ o, Below WE.heap.size WE (WE.drew.alloc o) := fun o => hD.alloc (by simp) _
   have HD := Lib.hid hD
   have HDA := Lib.hid hDA
   have HMK : Hid (∀ w', Below WE.heap.size WE w' → Calls Tryz.prog 49 #[.int .i64 k, .int .i64 t.initial, .slice a7 (LN + 1) c7, .slice va CN vc] w' fun e w'' => ∃ lv ev, e = .returned (.agg #[.int .i64 k, .int .i64 t.initial, lv, ev]) ∧ Below w'.heap.size w' w'' ∧ OwnLts w'.heap.size w'' lv ev (susT t ins)) := fun w' hb => by
    refine (l11Make_any B B k t.initial (t.labels ++ [deltaT]) (susEs t ins) _ _ w' (SliceK.of_owns (enc := encS) (e := 9) encS_len (n := LN + 1) (by simp [HLN.out]) (by rw [flat_encS]; exact owns_below HOT.out hb)) (SliceK.of_owns (enc := encE) (e := 47) encE_len (n := CN) (by rw [HCN.out, HALLE.out]) (by have h := owns_below HOE.out hb; rw [HALLE.out] at h; exact h)) ?_ ?_ (susEs_lab HIF.out.valid ins)).mono ?_
    ·rw [List.length_append, ← HLN.out]; simp; omega
    ·rw [← HALLE.out, ← HCN.out]; omega
    ·rintro e w'' ⟨hb2, lv, ev, R, rfl, hl, he, hm⟩
     have hR := sus_edges HIF.out hm
     subst hR
     exact ⟨lv, ev, rfl, hb2, hl, he⟩
   have hlt2 : ¬ (k : Int) < (k : Int) := by omega
   have hnp : p ≠ WE.heap.size := by omega
   clear hbl hrb hot hoe hCN hWE c1 hD hDA hlt hlen hk
   go_wp2
   go_region_held3 (fun w' => w'.cell? ⟨p, 0, none⟩ = some (.int .i64 k) ∧ w'.cell? ⟨p, 1, none⟩ = some (.int .i64 t.initial))
    (first
     | exact HSW.out _ (Below.refl _ _)
     | exact HSW.out _ HD.out
     | exact HSW.out _ (HDA.out _)
     | exact HSW.out _ hq9
     | exact HSW.out _ (hq9.alloc hs9 _)
     | (refine ⟨?_, ?_⟩ <;> (rw [World.cell?_setCell_far _ _ _ _ (by first | exact hnp | exact fun e => hnp e.symm), World.cell?_setCell_far _ _ _ _ (by first | exact hnp | exact fun e => hnp e.symm), World.cell?_setCell_far _ _ _ _ (by first | exact hnp | exact fun e => hnp e.symm), World.cell?_setCell_far _ _ _ _ (by first | exact hnp | exact fun e => hnp e.symm)]; first | exact (HSW.out _ hq9).1 | exact (HSW.out _ hq9).2))
     | go_keep)
    (first
     | (go_at_call 49; refine Calls.mono (HMK.out _ (by first | exact HD.out | exact HDA.out _)) ?_; rintro e w9 ⟨lv9, ev9, he9, hb9, ho9⟩; have hq9 : Below WE.heap.size WE w9 := (by first | exact HD.out.trans (hb9.mono (by simp)) | exact (HDA.out _).trans (hb9.mono (by simp))); have hs9 := hq9.size; obtain ⟨la9, lc9, rfl, -, -⟩ := owns_slice ho9.1; obtain ⟨ea9, ec9, rfl, -, -⟩ := owns_slice ho9.2; subst he9; have HQ9 := Lib.hid hq9; have HO9 := Lib.hid ho9; (first | (have HZ : Hid (Blk w9 WE.heap.size [.int .i64 0, .int .i64 0, .slice none 0 0, .slice none 0 0] 27) := (Blk.new WE.drew [.int .i64 0, .int .i64 0, .slice none 0 0, .slice none 0 0] 27).below hb9; have z0 := HZ.out.cell 0 rfl; have z1 := HZ.out.cell 1 rfl; have z2 := HZ.out.cell 2 rfl; have z3 := HZ.out.cell 3 rfl; have y0 := HZ.out.frozen 0; have y1 := HZ.out.frozen 1; have y2 := HZ.out.frozen 2; have y3 := HZ.out.frozen 3) | skip)))
   ·clear hb9 ho9
    obtain ⟨LM, hLM⟩ : ∃ LM, LM = (susT t ins).labels.length := ⟨_, rfl⟩
    obtain ⟨EM, hEM⟩ : ∃ EM, EM = (susT t ins).edges.length := ⟨_, rfl⟩
    rw [← hLM, ← hEM] at HO9
    rw [← hLM, ← hEM]
    have HBL9 : Hid (OwnLts B w9 (.slice la9 LM lc9) (.slice ea9 EM ec9) (susT t ins)) := ⟨own_lower HO9.out.1 (by simp; omega), own_lower HO9.out.2 (by simp; omega)⟩
    obtain ⟨WF, hWF⟩ : ∃ WF, WF = w9.alloc (.cells #[.int .i64 k, .int .i64 t.initial, .slice la9 LM lc9, .slice ea9 EM ec9] 27) := ⟨_, rfl⟩
    obtain ⟨b9, hb9e⟩ : ∃ b9, b9 = w9.heap.size := ⟨_, rfl⟩
    have HX : Hid (Blk WF b9 [.int .i64 k, .int .i64 t.initial, .slice la9 LM lc9, .slice ea9 EM ec9] 27) := by unfold Hid; rw [hWF, hb9e]; exact Blk.new w9 _ _
    have HBF : Hid (Below WE.heap.size WE WF) := by unfold Hid; rw [hWF]; exact HQ9.out.alloc hs9 _
    have HOF : Hid (OwnLts B WF (.slice la9 LM lc9) (.slice ea9 EM ec9) (susT t ins)) := by unfold Hid; rw [hWF]; exact ⟨HBL9.out.1.alloc _, HBL9.out.2.alloc _⟩
    have hnb : b9 ≠ B := by have := HRL.out.lt; omega
    rw [← hWF, ← hb9e]
    clear hWF hb9e hq9 hLM hEM c0
    have hszF : B ≤ WF.heap.size := Nat.le_trans hszr HBF.out.size
    have HRF : Hid (Blk WF B [.int .i64 0, .int .i64 0, .slice none 0 0, .slice none 0 0] 27) := HRL.out.below HBF.out
    have HRD : Hid (Blk WF.drew B [.int .i64 0, .int .i64 0, .slice none 0 0, .slice none 0 0] 27) := HRF.out
    have HXD : Hid (Blk WF.drew b9 [.int .i64 k, .int .i64 t.initial, .slice la9 LM lc9, .slice ea9 EM ec9] 27) := HX.out
    have HDF : Hid (Below WF.heap.size WF WF.drew) := (Below.refl _ _).drew
    have HBD : Hid (Below B w WF.drew) := HBL.out.trans ((HBF.out.trans (HDF.out.mono HBF.out.size)).mono hszr)
    have HOD : Hid (OwnLts B WF.drew (.slice la9 LM lc9) (.slice ea9 EM ec9) (susT t ins)) := HOF.out
    have HST : Hid ((susT t ins).states = (k : Int)) := HSN.out.symm
    have HLP : Hid (∀ w', Blk w' b9 [.int .i64 k, .int .i64 t.initial, .slice la9 LM lc9, .slice ea9 EM ec9] 27 → OwnLts B w' (.slice la9 LM lc9) (.slice ea9 EM ec9) (susT t ins) → LtsPtr B w' b9 (susT t ins)) := fun w' hx ho =>
     ⟨_, _, hx.lt, by rw [HST.out]; exact hx.cell 0 rfl, hx.cell 1 rfl, hx.cell 2 rfl, hx.cell 3 rfl, SliceK.of_owns (enc := encS) (e := 9) encS_len rfl (by rw [flat_encS]; exact ho.1), SliceK.of_owns (enc := encE) (e := 47) encE_len rfl ho.2⟩
    have HP0 : Hid (LtsPtr B WF.drew b9 (susT t ins)) := HLP.out _ HXD.out HOD.out
    have HO4 : Hid (OwnLts B ((((WF.drew.setCell ⟨B, 0, none⟩ (.int .i64 k)).setCell ⟨B, 1, none⟩ (.int .i64 t.initial)).setCell ⟨B, 2, none⟩ (.slice la9 LM lc9)).setCell ⟨B, 3, none⟩ (.slice ea9 EM ec9)) (.slice la9 LM lc9) (.slice ea9 EM ec9) (susT t ins)) := ⟨own4 HRD.out HOD.out.1 (by decide), own4 HRD.out HOD.out.2 (by decide)⟩
    have HX4 : Hid (Blk ((((WF.drew.setCell ⟨B, 0, none⟩ (.int .i64 k)).setCell ⟨B, 1, none⟩ (.int .i64 t.initial)).setCell ⟨B, 2, none⟩ (.slice la9 LM lc9)).setCell ⟨B, 3, none⟩ (.slice ea9 EM ec9)) b9 [.int .i64 k, .int .i64 t.initial, .slice la9 LM lc9, .slice ea9 EM ec9] 27) := (((HXD.out.setOther _ _ hnb).setOther _ _ hnb).setOther _ _ hnb).setOther _ _ hnb
    have HR4 : Hid (Blk ((((WF.drew.setCell ⟨B, 0, none⟩ (.int .i64 k)).setCell ⟨B, 1, none⟩ (.int .i64 t.initial)).setCell ⟨B, 2, none⟩ (.slice la9 LM lc9)).setCell ⟨B, 3, none⟩ (.slice ea9 EM ec9)) B [.int .i64 k, .int .i64 t.initial, .slice la9 LM lc9, .slice ea9 EM ec9] 27) := (((HRD.out.set 0 _).set 1 _).set 2 _).set 3 _
    have HB4 : Hid (Below B w ((((WF.drew.setCell ⟨B, 0, none⟩ (.int .i64 k)).setCell ⟨B, 1, none⟩ (.int .i64 t.initial)).setCell ⟨B, 2, none⟩ (.slice la9 LM lc9)).setCell ⟨B, 3, none⟩ (.slice ea9 EM ec9))) := (((HBD.out.setCell (Nat.le_refl _) _).setCell (Nat.le_refl _) _).setCell (Nat.le_refl _) _).setCell (Nat.le_refl _) _
    have HP4 : Hid (LtsPtr B ((((WF.drew.setCell ⟨B, 0, none⟩ (.int .i64 k)).setCell ⟨B, 1, none⟩ (.int .i64 t.initial)).setCell ⟨B, 2, none⟩ (.slice la9 LM lc9)).setCell ⟨B, 3, none⟩ (.slice ea9 EM ec9)) b9 (susT t ins)) := HLP.out _ HX4.out HO4.out
    have HSF : Hid (∀ w', Blk w' b9 [.int .i64 k, .int .i64 t.initial, .slice la9 LM lc9, .slice ea9 EM ec9] 27 → w'.cell? ⟨b9, 0, none⟩ = some (.int .i64 k) ∧ w'.cell? ⟨b9, 1, none⟩ = some (.int .i64 t.initial) ∧ w'.cell? ⟨b9, 2, none⟩ = some (.slice la9 LM lc9) ∧ w'.cell? ⟨b9, 3, none⟩ = some (.slice ea9 EM ec9)) := fun w' h => ⟨h.cell 0 rfl, h.cell 1 rfl, h.cell 2 rfl, h.cell 3 rfl⟩
    have HLI : Hid (∀ w', LtsPtr B w' b9 (susT t ins) → Calls Tryz.prog 22 #[.pointer (some ⟨b9, 0, none⟩)] w' (Decides (Valid (susT t ins)) w')) := fun w' hp => l11Is_any b9 B (susT t ins) w' (susL_shortS HSH.out) hp
    have x0 := HX.out.cell 0 rfl
    have x1 := HX.out.cell 1 rfl
    have x2 := HX.out.cell 2 rfl
    have x3 := HX.out.cell 3 rfl
    have r0 := HRF.out.cell 0 rfl
    have r1 := HRF.out.cell 1 rfl
    have r2 := HRF.out.cell 2 rfl
    have r3 := HRF.out.cell 3 rfl
    have s0 := HRF.out.frozen 0
    have s1 := HRF.out.frozen 1
    have s2 := HRF.out.frozen 2
    have s3 := HRF.out.frozen 3
    rw [← HB.out]
    go_wp2
    go_region_held3 (fun w' => w'.cell? ⟨b9, 0, none⟩ = some (.int .i64 k) ∧ w'.cell? ⟨b9, 1, none⟩ = some (.int .i64 t.initial) ∧ w'.cell? ⟨b9, 2, none⟩ = some (.slice la9 LM lc9) ∧ w'.cell? ⟨b9, 3, none⟩ = some (.slice ea9 EM ec9))
     (first
      | with_reducible exact HSF.out _ HX.out
      | with_reducible exact HSF.out _ HXD.out
      | with_reducible exact HSF.out _ HX4.out
      | with_reducible exact HSF.out _ HXI.out
      | (refine ⟨?_, ?_, ?_, ?_⟩ <;> (rw [World.cell?_setCell_far _ _ _ _ (by first | exact hnb | exact fun e => hnb e.symm), World.cell?_setCell_far _ _ _ _ (by first | exact hnb | exact fun e => hnb e.symm), World.cell?_setCell_far _ _ _ _ (by first | exact hnb | exact fun e => hnb e.symm), World.cell?_setCell_far _ _ _ _ (by first | exact hnb | exact fun e => hnb e.symm)]; first | with_reducible exact (HSF.out _ HXI.out).1 | with_reducible exact (HSF.out _ HXI.out).2.1 | with_reducible exact (HSF.out _ HXI.out).2.2.1 | with_reducible exact (HSF.out _ HXI.out).2.2.2))
      | go_keep)
     (first
      | (go_at_call 22; refine Calls.mono (HLI.out _ (by first | with_reducible exact HP0.out | with_reducible exact HP4.out)) ?_; rintro e wI ⟨bb, he5, hbb, hbI⟩; subst he5; have HBB3 := Lib.hid hbb; (first | (have hXI : Blk wI b9 [.int .i64 k, .int .i64 t.initial, .slice la9 LM lc9, .slice ea9 EM ec9] 27 := (by with_reducible exact HXD.out.below hbI); have HXI := Lib.hid hXI; clear hXI; have HRI : Hid (Blk wI B [.int .i64 0, .int .i64 0, .slice none 0 0, .slice none 0 0] 27) := HRD.out.below hbI; have HBI : Hid (Below B w wI) := HBD.out.trans (hbI.mono hszF); have HOI : Hid (OwnLts B wI (.slice la9 LM lc9) (.slice ea9 EM ec9) (susT t ins)) := ⟨owns_below HOD.out.1 hbI, owns_below HOD.out.2 hbI⟩; have k0 := HRI.out.cell 0 rfl; have k1 := HRI.out.cell 1 rfl; have k2 := HRI.out.cell 2 rfl; have k3 := HRI.out.cell 3 rfl; have l0 := HRI.out.frozen 0; have l1 := HRI.out.frozen 1; have l2 := HRI.out.frozen 2; have l3 := HRI.out.frozen 3) | (have HXI : Hid (Blk wI b9 [.int .i64 k, .int .i64 t.initial, .slice la9 LM lc9, .slice ea9 EM ec9] 27) := HX4.out.below hbI; have HRI : Hid (Blk wI B [.int .i64 k, .int .i64 t.initial, .slice la9 LM lc9, .slice ea9 EM ec9] 27) := HR4.out.below hbI; have HBI : Hid (Below B w wI) := HB4.out.trans (hbI.mono (by simpa using hszF)); have HOI : Hid (OwnLts B wI (.slice la9 LM lc9) (.slice ea9 EM ec9) (susT t ins)) := ⟨owns_below HO4.out.1 hbI, owns_below HO4.out.2 hbI⟩))))
    all_goals (
     clear x0 x1 x2 x3 r0 r1 r2 r3 s0 s1 s2 s3 hbI hbb
     go_wp2
     first
     | (refine bodyPost_ret (susp_results rfl HRI.out) rfl ?_
        unfold RetSp
        rw [← HB.out, ← HSN.out]
        exact ⟨HBI.out, bb, _, _, rfl, HBB3.out, HOI.out⟩)
     | (refine bodyPost_ret (susp_results rfl ((((HRI.out.set 0 _).set 1 _).set 2 _).set 3 _)) rfl ?_
        unfold RetSp
        rw [← HB.out, ← HSN.out]
        exact ⟨(((HBI.out.setCell (Nat.le_refl _) _).setCell (Nat.le_refl _) _).setCell (Nat.le_refl _) _).setCell (Nat.le_refl _) _, bb, _, _, rfl, HBB3.out, own4 HRI.out HOI.out.1 (by decide), own4 HRI.out HOI.out.2 (by decide)⟩))
   ·clear hb9 ho9 z0 z1 z2 z3 y0 y1 y2 y3
    obtain ⟨LM, hLM⟩ : ∃ LM, LM = (susT t ins).labels.length := ⟨_, rfl⟩
    obtain ⟨EM, hEM⟩ : ∃ EM, EM = (susT t ins).edges.length := ⟨_, rfl⟩
    rw [← hLM, ← hEM] at HO9
    rw [← hLM, ← hEM]
    have HBL9 : Hid (OwnLts B w9 (.slice la9 LM lc9) (.slice ea9 EM ec9) (susT t ins)) := ⟨own_lower HO9.out.1 (by simp; omega), own_lower HO9.out.2 (by simp; omega)⟩
    obtain ⟨WF, hWF⟩ : ∃ WF, WF = ((((w9.setCell ⟨WE.heap.size, 0, none⟩ (.int .i64 k)).setCell ⟨WE.heap.size, 1, none⟩ (.int .i64 t.initial)).setCell ⟨WE.heap.size, 2, none⟩ (.slice la9 LM lc9)).setCell ⟨WE.heap.size, 3, none⟩ (.slice ea9 EM ec9)) := ⟨_, rfl⟩
    obtain ⟨b9, hb9e⟩ : ∃ b9, b9 = WE.heap.size := ⟨_, rfl⟩
    have HX : Hid (Blk WF b9 [.int .i64 k, .int .i64 t.initial, .slice la9 LM lc9, .slice ea9 EM ec9] 27) := by unfold Hid; rw [hWF, hb9e]; exact (((HZ.out.set 0 _).set 1 _).set 2 _).set 3 _
    have HBF : Hid (Below WE.heap.size WE WF) := by unfold Hid; rw [hWF]; exact (((HQ9.out.setCell (Nat.le_refl _) _).setCell (Nat.le_refl _) _).setCell (Nat.le_refl _) _).setCell (Nat.le_refl _) _
    have HOF : Hid (OwnLts B WF (.slice la9 LM lc9) (.slice ea9 EM ec9) (susT t ins)) := by unfold Hid; rw [hWF]; exact ⟨own4 HZ.out HBL9.out.1 (by decide), own4 HZ.out HBL9.out.2 (by decide)⟩
    have hnb : b9 ≠ B := by have := HRL.out.lt; omega
    rw [← hWF, ← hb9e]
    clear hWF hb9e hq9 hLM hEM c0
    have hszF : B ≤ WF.heap.size := Nat.le_trans hszr HBF.out.size
    have HRF : Hid (Blk WF B [.int .i64 0, .int .i64 0, .slice none 0 0, .slice none 0 0] 27) := HRL.out.below HBF.out
    have HRD : Hid (Blk WF.drew B [.int .i64 0, .int .i64 0, .slice none 0 0, .slice none 0 0] 27) := HRF.out
    have HXD : Hid (Blk WF.drew b9 [.int .i64 k, .int .i64 t.initial, .slice la9 LM lc9, .slice ea9 EM ec9] 27) := HX.out
    have HDF : Hid (Below WF.heap.size WF WF.drew) := (Below.refl _ _).drew
    have HBD : Hid (Below B w WF.drew) := HBL.out.trans ((HBF.out.trans (HDF.out.mono HBF.out.size)).mono hszr)
    have HOD : Hid (OwnLts B WF.drew (.slice la9 LM lc9) (.slice ea9 EM ec9) (susT t ins)) := HOF.out
    have HST : Hid ((susT t ins).states = (k : Int)) := HSN.out.symm
    have HLP : Hid (∀ w', Blk w' b9 [.int .i64 k, .int .i64 t.initial, .slice la9 LM lc9, .slice ea9 EM ec9] 27 → OwnLts B w' (.slice la9 LM lc9) (.slice ea9 EM ec9) (susT t ins) → LtsPtr B w' b9 (susT t ins)) := fun w' hx ho =>
     ⟨_, _, hx.lt, by rw [HST.out]; exact hx.cell 0 rfl, hx.cell 1 rfl, hx.cell 2 rfl, hx.cell 3 rfl, SliceK.of_owns (enc := encS) (e := 9) encS_len rfl (by rw [flat_encS]; exact ho.1), SliceK.of_owns (enc := encE) (e := 47) encE_len rfl ho.2⟩
    have HP0 : Hid (LtsPtr B WF.drew b9 (susT t ins)) := HLP.out _ HXD.out HOD.out
    have HO4 : Hid (OwnLts B ((((WF.drew.setCell ⟨B, 0, none⟩ (.int .i64 k)).setCell ⟨B, 1, none⟩ (.int .i64 t.initial)).setCell ⟨B, 2, none⟩ (.slice la9 LM lc9)).setCell ⟨B, 3, none⟩ (.slice ea9 EM ec9)) (.slice la9 LM lc9) (.slice ea9 EM ec9) (susT t ins)) := ⟨own4 HRD.out HOD.out.1 (by decide), own4 HRD.out HOD.out.2 (by decide)⟩
    have HX4 : Hid (Blk ((((WF.drew.setCell ⟨B, 0, none⟩ (.int .i64 k)).setCell ⟨B, 1, none⟩ (.int .i64 t.initial)).setCell ⟨B, 2, none⟩ (.slice la9 LM lc9)).setCell ⟨B, 3, none⟩ (.slice ea9 EM ec9)) b9 [.int .i64 k, .int .i64 t.initial, .slice la9 LM lc9, .slice ea9 EM ec9] 27) := (((HXD.out.setOther _ _ hnb).setOther _ _ hnb).setOther _ _ hnb).setOther _ _ hnb
    have HR4 : Hid (Blk ((((WF.drew.setCell ⟨B, 0, none⟩ (.int .i64 k)).setCell ⟨B, 1, none⟩ (.int .i64 t.initial)).setCell ⟨B, 2, none⟩ (.slice la9 LM lc9)).setCell ⟨B, 3, none⟩ (.slice ea9 EM ec9)) B [.int .i64 k, .int .i64 t.initial, .slice la9 LM lc9, .slice ea9 EM ec9] 27) := (((HRD.out.set 0 _).set 1 _).set 2 _).set 3 _
    have HB4 : Hid (Below B w ((((WF.drew.setCell ⟨B, 0, none⟩ (.int .i64 k)).setCell ⟨B, 1, none⟩ (.int .i64 t.initial)).setCell ⟨B, 2, none⟩ (.slice la9 LM lc9)).setCell ⟨B, 3, none⟩ (.slice ea9 EM ec9))) := (((HBD.out.setCell (Nat.le_refl _) _).setCell (Nat.le_refl _) _).setCell (Nat.le_refl _) _).setCell (Nat.le_refl _) _
    have HP4 : Hid (LtsPtr B ((((WF.drew.setCell ⟨B, 0, none⟩ (.int .i64 k)).setCell ⟨B, 1, none⟩ (.int .i64 t.initial)).setCell ⟨B, 2, none⟩ (.slice la9 LM lc9)).setCell ⟨B, 3, none⟩ (.slice ea9 EM ec9)) b9 (susT t ins)) := HLP.out _ HX4.out HO4.out
    have HSF : Hid (∀ w', Blk w' b9 [.int .i64 k, .int .i64 t.initial, .slice la9 LM lc9, .slice ea9 EM ec9] 27 → w'.cell? ⟨b9, 0, none⟩ = some (.int .i64 k) ∧ w'.cell? ⟨b9, 1, none⟩ = some (.int .i64 t.initial) ∧ w'.cell? ⟨b9, 2, none⟩ = some (.slice la9 LM lc9) ∧ w'.cell? ⟨b9, 3, none⟩ = some (.slice ea9 EM ec9)) := fun w' h => ⟨h.cell 0 rfl, h.cell 1 rfl, h.cell 2 rfl, h.cell 3 rfl⟩
    have HLI : Hid (∀ w', LtsPtr B w' b9 (susT t ins) → Calls Tryz.prog 22 #[.pointer (some ⟨b9, 0, none⟩)] w' (Decides (Valid (susT t ins)) w')) := fun w' hp => l11Is_any b9 B (susT t ins) w' (susL_shortS HSH.out) hp
    have x0 := HX.out.cell 0 rfl
    have x1 := HX.out.cell 1 rfl
    have x2 := HX.out.cell 2 rfl
    have x3 := HX.out.cell 3 rfl
    have r0 := HRF.out.cell 0 rfl
    have r1 := HRF.out.cell 1 rfl
    have r2 := HRF.out.cell 2 rfl
    have r3 := HRF.out.cell 3 rfl
    have s0 := HRF.out.frozen 0
    have s1 := HRF.out.frozen 1
    have s2 := HRF.out.frozen 2
    have s3 := HRF.out.frozen 3
    rw [← HB.out]
    go_wp2
    go_region_held3 (fun w' => w'.cell? ⟨b9, 0, none⟩ = some (.int .i64 k) ∧ w'.cell? ⟨b9, 1, none⟩ = some (.int .i64 t.initial) ∧ w'.cell? ⟨b9, 2, none⟩ = some (.slice la9 LM lc9) ∧ w'.cell? ⟨b9, 3, none⟩ = some (.slice ea9 EM ec9))
     (first
      | with_reducible exact HSF.out _ HX.out
      | with_reducible exact HSF.out _ HXD.out
      | with_reducible exact HSF.out _ HX4.out
      | with_reducible exact HSF.out _ HXI.out
      | (refine ⟨?_, ?_, ?_, ?_⟩ <;> (rw [World.cell?_setCell_far _ _ _ _ (by first | exact hnb | exact fun e => hnb e.symm), World.cell?_setCell_far _ _ _ _ (by first | exact hnb | exact fun e => hnb e.symm), World.cell?_setCell_far _ _ _ _ (by first | exact hnb | exact fun e => hnb e.symm), World.cell?_setCell_far _ _ _ _ (by first | exact hnb | exact fun e => hnb e.symm)]; first | with_reducible exact (HSF.out _ HXI.out).1 | with_reducible exact (HSF.out _ HXI.out).2.1 | with_reducible exact (HSF.out _ HXI.out).2.2.1 | with_reducible exact (HSF.out _ HXI.out).2.2.2))
      | go_keep)
     (first
      | (go_at_call 22; refine Calls.mono (HLI.out _ (by first | with_reducible exact HP0.out | with_reducible exact HP4.out)) ?_; rintro e wI ⟨bb, he5, hbb, hbI⟩; subst he5; have HBB3 := Lib.hid hbb; (first | (have hXI : Blk wI b9 [.int .i64 k, .int .i64 t.initial, .slice la9 LM lc9, .slice ea9 EM ec9] 27 := (by with_reducible exact HXD.out.below hbI); have HXI := Lib.hid hXI; clear hXI; have HRI : Hid (Blk wI B [.int .i64 0, .int .i64 0, .slice none 0 0, .slice none 0 0] 27) := HRD.out.below hbI; have HBI : Hid (Below B w wI) := HBD.out.trans (hbI.mono hszF); have HOI : Hid (OwnLts B wI (.slice la9 LM lc9) (.slice ea9 EM ec9) (susT t ins)) := ⟨owns_below HOD.out.1 hbI, owns_below HOD.out.2 hbI⟩; have k0 := HRI.out.cell 0 rfl; have k1 := HRI.out.cell 1 rfl; have k2 := HRI.out.cell 2 rfl; have k3 := HRI.out.cell 3 rfl; have l0 := HRI.out.frozen 0; have l1 := HRI.out.frozen 1; have l2 := HRI.out.frozen 2; have l3 := HRI.out.frozen 3) | (have HXI : Hid (Blk wI b9 [.int .i64 k, .int .i64 t.initial, .slice la9 LM lc9, .slice ea9 EM ec9] 27) := HX4.out.below hbI; have HRI : Hid (Blk wI B [.int .i64 k, .int .i64 t.initial, .slice la9 LM lc9, .slice ea9 EM ec9] 27) := HR4.out.below hbI; have HBI : Hid (Below B w wI) := HB4.out.trans (hbI.mono (by simpa using hszF)); have HOI : Hid (OwnLts B wI (.slice la9 LM lc9) (.slice ea9 EM ec9) (susT t ins)) := ⟨owns_below HO4.out.1 hbI, owns_below HO4.out.2 hbI⟩))))
    all_goals (
     clear x0 x1 x2 x3 r0 r1 r2 r3 s0 s1 s2 s3 hbI hbb
     go_wp2
     first
     | (refine bodyPost_ret (susp_results rfl HRI.out) rfl ?_
        unfold RetSp
        rw [← HB.out, ← HSN.out]
        exact ⟨HBI.out, bb, _, _, rfl, HBB3.out, HOI.out⟩)
     | (refine bodyPost_ret (susp_results rfl ((((HRI.out.set 0 _).set 1 _).set 2 _).set 3 _)) rfl ?_
        unfold RetSp
        rw [← HB.out, ← HSN.out]
        exact ⟨(((HBI.out.setCell (Nat.le_refl _) _).setCell (Nat.le_refl _) _).setCell (Nat.le_refl _) _).setCell (Nat.le_refl _) _, bb, _, _, rfl, HBB3.out, own4 HRI.out HOI.out.1 (by decide), own4 HRI.out HOI.out.2 (by decide)⟩))

end Go.Proofs.YtnmkncioekdehaaGreatDoor

namespace Go.Proofs.YtnmkncioekdehaaGreatDoor
open Go Go.RowKit


theorem slt_results {w : World} {b : Nat} {v0 v1 v2 v3 : Value} {tmps : Array Value} (hc : tmps.getD 4 undef = .pointer (some ⟨b, 0, none⟩)) (hb : Blk w b [v0, v1, v2, v3] 27) :
  (results Tryz.f8 tmps).run Tryz.prog w = .ok (.tuple #[.agg #[v0, v1, v2, v3], tmps.getD 5 undef]) w := by
 have h0 := hb.cell 0 rfl
 have h1 := hb.cell 1 rfl
 have h2 := hb.cell 2 rfl
 have h3 := hb.cell 3 rfl
 simp only [Array.getD_eq_getD_getElem?] at hc
 simp [results, Tryz.results8, go_sem, hc, h0, h1, h2, h3, Result.andThen]

set_option maxRecDepth 100000 in
set_option maxHeartbeats 2000000 in
theorem specSuspensionFull_any (lo : Nat) (t : Lts) (lv ev v : Value) (ins : List ByteArray) (w : World) (h : IfOk t ins) (hno : ¬ Valid (susT t ins)) (hsh : Short t.labels) (hl : SliceK 1 encS lo w lv t.labels) (he : SliceK 3 encE lo w ev t.edges) (hi : SliceK 1 encS lo w v ins) :
  Calls Tryz.prog 8 #[.agg #[.int .i64 t.states, .int .i64 t.initial, lv, ev], v] w fun e w' => e = .returned (.tuple #[.agg #[.int .i64 0, .int .i64 0, .slice none 0 0, .slice none 0 0], .int .i64 5]) ∧ Below w.heap.size w w' := by
 obtain ⟨tb, htb⟩ : ∃ tb, tb = w.heap.size := ⟨_, rfl⟩
 obtain ⟨wA, hwA⟩ : ∃ wA, wA = (w.alloc (.cells #[.int .i64 t.states, .int .i64 t.initial, lv, ev] 27)).alloc (.cells #[.int .i64 0, .int .i64 0, .slice none 0 0, .slice none 0 0] 27) := ⟨_, rfl⟩
 have hbA : Below w.heap.size w wA := by rw [hwA]; exact ((Below.refl _ _).alloc (Nat.le_refl _) _).alloc (by simp) _
 have hT : Blk wA tb [.int .i64 t.states, .int .i64 t.initial, lv, ev] 27 := by rw [hwA, htb]; exact (Blk.new w _ _).alloc _
 have hR : Blk wA (tb + 1) [.int .i64 0, .int .i64 0, .slice none 0 0, .slice none 0 0] 27 := by
  have := Blk.new (w.alloc (.cells #[.int .i64 t.states, .int .i64 t.initial, lv, ev] 27)) [.int .i64 0, .int .i64 0, .slice none 0 0, .slice none 0 0] 27
  rw [World.size_alloc, ← htb] at this
  rw [hwA]
  exact this
 have hP : LtsPtr lo wA tb t := ⟨_, _, hT.lt, hT.cell 0 rfl, hT.cell 1 rfl, hT.cell 2 rfl, hT.cell 3 rfl, hl.below hbA, he.below hbA⟩
 have HVA := Lib.hid (Decides.yes (l28Is_any tb lo t v ins wA hsh hP (hi.below hbA)) h)
 have HIF := Lib.hid h
 have HNO := Lib.hid hno
 have HSH := Lib.hid hsh
 have HP := Lib.hid hP
 have HI := Lib.hid (hi.below hbA)
 have HBA := Lib.hid hbA
 have HR := Lib.hid hR
 have HWA := Lib.hid hwA
 have HTB := Lib.hid htb
 have hsW : w.heap.size ≤ wA.heap.size := hbA.size
 have hle : w.heap.size ≤ tb + 1 := by rw [htb]; omega
 clear hsh hl he hi hwA hbA hT hR htb hP h hno
 go_enter Tryz.func8, Tryz.ntmps8
 go_wp2_with fail
 rw [← HWA.out, ← HTB.out]
 refine Calls.mono HVA.out ?_
 rintro e w1 ⟨rfl, hb1⟩
 have HB1 := Lib.hid (HBA.out.trans (hb1.mono hsW))
 have HR1 := Lib.hid (HR.out.below hb1)
 have hs1 : w.heap.size ≤ w1.heap.size := HB1.out.size
 have HAU := Lib.hid (l28Suspend_any tb lo t v ins w1 HIF.out HSH.out (HP.out.below hb1) (HI.out.below hb1))
 clear hb1 HVA
 go_wp2_with fail
 refine Calls.mono HAU.out ?_
 rintro e w2 ⟨hb2, b, lv2, ev2, rfl, hbv, hown⟩
 obtain ⟨la2, lc2, rfl, -, -⟩ := owns_slice hown.1
 obtain ⟨ea2, ec2, rfl, -, -⟩ := owns_slice hown.2
 have hb0 : b = false := by
  cases b with
  | false => rfl
  | true => exact absurd (hbv.1 rfl) HNO.out
 subst hb0
 have HB2 := Lib.hid (HB1.out.trans (hb2.mono hs1))
 have hs2 : w.heap.size ≤ w2.heap.size := HB2.out.size
 have HR2 := Lib.hid (HR1.out.below hb2)
 obtain ⟨W3, hW3⟩ : ∃ W3, W3 = w2.alloc (.cells #[.int .i64 t.states, .int .i64 t.initial, .slice la2 (susT t ins).labels.length lc2, .slice ea2 (susT t ins).edges.length ec2] 27) := ⟨_, rfl⟩
 have hR3 : Blk W3 (tb + 1) [.int .i64 0, .int .i64 0, .slice none 0 0, .slice none 0 0] 27 := by rw [hW3]; exact HR2.out.alloc _
 have HB3 : Hid (Below w.heap.size w W3) := by unfold Hid; rw [hW3]; exact HB2.out.alloc hs2 _
 have HR3 := Lib.hid hR3
 have r0 := hR3.cell 0 rfl
 have r1 := hR3.cell 1 rfl
 have r2 := hR3.cell 2 rfl
 have r3 := hR3.cell 3 rfl
 have s0 := hR3.frozen 0
 have s1 := hR3.frozen 1
 have s2 := hR3.frozen 2
 have s3 := hR3.frozen 3
 rw [hW3] at r0 r1 r2 r3 s0 s1 s2 s3
 have HW3 := Lib.hid hW3
 clear hb2 hbv hown HAU hW3 hR3
 go_wp2
 rw [← HW3.out]
 refine bodyPost_ret (slt_results rfl (put4D HR3.out)) rfl ?_
 exact ⟨rfl, below_put4D HB3.out hle⟩

theorem specValid_yes (lo : Nat) (t : Lts) (lv ev : Value) (w : World) (h : Valid t) (hsh : Short t.labels) (hl : SliceK 1 encS lo w lv t.labels) (he : SliceK 3 encE lo w ev t.edges) :
  Calls Tryz.prog 9 #[.agg #[.int .i64 t.states, .int .i64 t.initial, lv, ev]] w fun e w' => e = .returned (.bool true) ∧ Below w.heap.size w w' := by
 obtain ⟨W, hW⟩ : ∃ W, W = w.alloc (.cells #[.int .i64 t.states, .int .i64 t.initial, lv, ev] 27) := ⟨_, rfl⟩
 obtain ⟨tb, htb⟩ : ∃ tb, tb = w.heap.size := ⟨_, rfl⟩
 have hb : Below w.heap.size w W := by rw [hW]; exact (Below.refl _ _).alloc (Nat.le_refl _) _
 have hT : Blk W tb [.int .i64 t.states, .int .i64 t.initial, lv, ev] 27 := by rw [hW, htb]; exact Blk.new w _ _
 have HV := Lib.hid (Decides.yes (l11Is_any tb lo t W hsh ⟨_, _, hT.lt, hT.cell 0 rfl, hT.cell 1 rfl, hT.cell 2 rfl, hT.cell 3 rfl, hl.below hb, he.below hb⟩) h)
 have HB := Lib.hid hb
 have HW := Lib.hid hW
 have HTB := Lib.hid htb
 have hsW : w.heap.size ≤ W.heap.size := hb.size
 clear hl he hsh h hW htb hb hT
 go_enter Tryz.func9, Tryz.ntmps9
 go_wp2_with fail
 rw [← HW.out, ← HTB.out]
 refine Calls.mono HV.out ?_
 rintro e w1 ⟨rfl, hb1⟩
 have HB1 := Lib.hid (HB.out.trans (hb1.mono hsW))
 clear hb1 HV
 go_wp2
 go_ret
 exact ⟨rfl, HB1.out⟩

theorem b10Long_any (a : Option Addr) (N c : Nat) (w : World) : Calls Tryz.prog 4 #[.slice a N c] w fun e w' => e = .returned (.bool (decide (1048576 < N))) ∧ w = w' := by
 by_cases h : 1048576 < N
 ·have hi : (1048576 : Int) < (N : Int) := by omega
  have HF : Hid (decide (1048576 < N) = true) := decide_eq_true h
  go_enter Tryz.func4, Tryz.ntmps4
  go_wp2
  go_ret
  exact ⟨by rw [HF.out]; rfl, rfl⟩
 ·have hi : ¬ (1048576 : Int) < (N : Int) := by omega
  have HF : Hid (decide (1048576 < N) = false) := decide_eq_false h
  go_enter Tryz.func4, Tryz.ntmps4
  go_wp2
  go_ret
  exact ⟨rfl, rfl⟩

end Go.Proofs.YtnmkncioekdehaaGreatDoor
