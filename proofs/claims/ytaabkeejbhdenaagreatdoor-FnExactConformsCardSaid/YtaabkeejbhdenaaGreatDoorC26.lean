/-
  The implementation's suspension.
  The implementation's ValidInterface and checked.
  The implementation's SuspensionLts.
  The implementation's DeterminizeLts.
  The implementation's SuspensionAutomaton.
-/
import Derived.Test.YtaabkeejbhdenaaGreatDoorC24
import Derived.Test.YtaabkeejbhdenaaGreatDoorC25
import Derived.Test.YtaabkeejbhdenaaGreatDoorC15
import Derived.Test.YtaabkeejbhdenaaGreatDoorC14
import Derived.Test.YtaabkeejbhdenaaGreatDoorC21
import Derived.Test.YtaabkeejbhdenaaGreatDoorC22
namespace Go.Proofs.YtaabkeejbhdenaaGreatDoor
open Go Go.RowKit

theorem sus_results {w : World} {b : Nat} {v0 v1 v2 v3 : Value} {tmps : Array Value} (hc : tmps.getD 4 undef = .pointer (some ⟨b, 0, none⟩)) (hb : Blk w b [v0, v1, v2, v3] 29) :
  (results Tryz.f35 tmps).run Tryz.prog w = .ok (.agg #[v0, v1, v2, v3]) w := by
 have h0 := hb.cell 0 rfl
 have h1 := hb.cell 1 rfl
 have h2 := hb.cell 2 rfl
 have h3 := hb.cell 3 rfl
 simp only [Array.getD_eq_getD_getElem?] at hc
 simp [results, Tryz.results35, go_sem, hc, h0, h1, h2, h3, Result.andThen]

theorem info_arcU : (Tryz.prog.info? 111).map (fun i => (i.zero, i.size, i.bytes)) = some (some (.agg #[.int .i64 0, .string ⟨#[]⟩, .int .i64 0]), 3, 32) := by kernel_rfl
theorem info_strU : (Tryz.prog.info? 9).map (fun i => (i.zero, i.size, i.bytes)) = some (some (.string ⟨#[]⟩), 1, 16) := by kernel_rfl

set_option maxRecDepth 100000 in
set_option maxHeartbeats 4000000 in
theorem suspension_any (lo : Nat) (t : Lts) (lv ev v : Value) (ins : List ByteArray) (w : World) (h : IfOk t ins) (hl : SliceK 1 encS lo w lv t.labels) (he : SliceK 3 encE lo w ev t.edges) (hi : SliceK 1 encS lo w v ins) (hsh : Short20 t.labels) (g : Glob w) :
  Calls Tryz.prog 35 #[.agg #[.int .i64 t.states, .int .i64 t.initial, lv, ev], v] w (RetLts t.states t.initial (susL t) (susT t ins).edges w) := by
 obtain ⟨i1, hi1, hz10, hz11, hz12⟩ := info_parts info_strU
 obtain ⟨i0, hi0, hz0, hz1, hz2⟩ := info_parts info_arcU
 obtain ⟨tb, htb⟩ : ∃ tb, tb = w.heap.size := ⟨_, rfl⟩
 obtain ⟨wA, hwA⟩ : ∃ wA, wA = (w.alloc (.cells #[.int .i64 t.states, .int .i64 t.initial, lv, ev] 29)).alloc (.cells #[.int .i64 0, .int .i64 0, .slice none 0 0, .slice none 0 0] 29) := ⟨_, rfl⟩
 have hbA : Below w.heap.size w wA := by rw [hwA]; exact ((Below.refl _ _).alloc (Nat.le_refl _) _).alloc (by simp) _
 have hsA : wA.heap.size = tb + 1 + 1 := by rw [hwA, htb]; simp
 have hT : Blk wA tb [.int .i64 t.states, .int .i64 t.initial, lv, ev] 29 := by rw [hwA, htb]; exact (Blk.new w _ _).alloc _
 have hR : Blk wA (tb + 1) [.int .i64 0, .int .i64 0, .slice none 0 0, .slice none 0 0] 29 := by
  have := Blk.new (w.alloc (.cells #[.int .i64 t.states, .int .i64 t.initial, lv, ev] 29)) [.int .i64 0, .int .i64 0, .slice none 0 0, .slice none 0 0] 29
  rw [World.size_alloc, ← htb] at this
  rw [hwA]
  exact this
 have hv := h.valid
 have HAR := Lib.hid (arcs_any lo t lv ev wA hv.edge (by have := hv.most; omega) (hl.below hbA) (he.below hbA))
 have HIF := Lib.hid h
 have HL := Lib.hid (hl.below hbA)
 have HE := Lib.hid (he.below hbA)
 have HI := Lib.hid (hi.below hbA)
 have HG := Lib.hid (g.below hbA)
 have HSH := Lib.hid hsh
 have HBA := Lib.hid hbA
 have HT := Lib.hid hT
 have HR := Lib.hid hR
 have HWA := Lib.hid hwA
 have HTB := Lib.hid htb
 have HSA := Lib.hid hsA
 obtain ⟨WB, hWB⟩ : ∃ WB, WB = wA.heap.size := ⟨_, rfl⟩
 have HWB := Lib.hid hWB
 clear h hl he hi hsh g hbA hsA hT hR hv hwA htb hWB
 go_enter Tryz.func35, Tryz.ntmps35
 go_wp2_with fail
 rw [← HWA.out]
 refine Calls.mono HAR.out ?_
 rintro e w1 ⟨av, rfl, hb1, ho1⟩
 have HB1 := Lib.hid hb1
 have HO1 := Lib.hid ho1
 have HT1 := Lib.hid (HT.out.below hb1)
 have t0 := HT1.out.cell 0 rfl
 have t1 := HT1.out.cell 1 rfl
 have t2 := HT1.out.cell 2 rfl
 have t3 := HT1.out.cell 3 rfl
 have HQ := Lib.hid (quiescent_any lo t lv ev v ins w1 HIF.out (HL.out.below hb1) (HE.out.below hb1) (HI.out.below hb1) HSH.out (HG.out.below hb1))
 obtain ⟨aa, ac, rfl, -, -⟩ := owns_slice ho1
 rw [← HTB.out]
 clear hb1 ho1 HAR
 go_wp2_with fail
 refine Calls.mono HQ.out ?_
 rintro e w2 ⟨nv, rfl, hb2, ho2⟩
 obtain ⟨qa, qc, rfl, -, -⟩ := owns_slice ho2
 have HO2 := Lib.hid (own_lower ho2 HB1.out.size)
 have HO3 := Lib.hid (owns_below HO1.out hb2)
 have HB2 := Lib.hid (HB1.out.trans (hb2.mono HB1.out.size))
 obtain ⟨Q, hQ⟩ : ∃ Q, Q = quiets t ins := ⟨_, rfl⟩
 obtain ⟨N, hN⟩ : ∃ N, N = (quiets t ins).length := ⟨_, rfl⟩
 obtain ⟨XS, hXS⟩ : ∃ XS, XS = (t.edges.map (arcOf t)).flatMap encC := ⟨_, rfl⟩
 obtain ⟨A0, hA0⟩ : ∃ A0, A0 = t.edges.length := ⟨_, rfl⟩
 rw [← hXS, List.length_map, ← hA0] at HO3
 rw [← hA0]
 rw [← hN] at HO2 ⊢
 rw [← hQ] at HO2
 have hA300 : A0 ≤ 300 := by rw [hA0]; exact HIF.out.valid.most
 have hN40 : N ≤ 40 := by have := quiets_len t ins; have := HIF.out.valid.st1; omega
 have HNQ : Hid (N = Q.length) := by unfold Hid; rw [hN, hQ]
 have HQQ := Lib.hid hQ
 have HXS := Lib.hid hXS
 have HA0 := Lib.hid hA0
 rw [← HWB.out] at HO2 HO3 HB2
 have hW2 : WB ≤ w2.heap.size := by rw [HWB.out]; exact HB2.out.size
 clear hb2 ho2 HQ hQ hN hXS hA0 t0 t1 t2 t3 HO1 HT1
 go_wp2
 go_loopw [5, 14] (fun v5 v14 wr => ∃ k : Nat, k ≤ N ∧ v14 = .int .i64 k ∧ Below WB wA wr ∧ wr.ownsRow WB 2 1 (.slice qa N qc) N (Q.map (Value.int .i64)) ∧ wr.ownsRow WB 111 3 v5 (A0 + k) (XS ++ ((Q.take k).map fun k => (⟨k, deltaT, k⟩ : Arc)).flatMap encC)) (fun _ v14 _ => N - (intOf v14).toNat)
 case atStart => exact ⟨0, Nat.zero_le _, rfl, HB2.out, HO2.out, by simpa using HO3.out⟩
 case round =>
  obtain ⟨k, hk, rfl, hbl, hoq, hoa⟩ := hrel
  have HBL := Lib.hid hbl
  have HOQ := Lib.hid hoq
  have HOA := Lib.hid hoa
  have hszr : WB ≤ wr.heap.size := by rw [HWB.out]; exact hbl.size
  obtain ⟨va, vc, rfl, -, -⟩ := owns_slice hoa
  by_cases hlt : k < N
  ·have hkq : k < Q.length := by rw [← HNQ.out]; exact hlt
   obtain ⟨b, o, rfl, hcq⟩ : ∃ b o, qa = some ⟨b, o, none⟩ ∧ wr.cell? ⟨b, o + k, none⟩ = some (.int .i64 Q[k]) := by
    have hS : SliceK 1 encI WB wr (.slice qa N qc) Q := SliceK.of_owns (e := 2) encI_len HNQ.out (by rw [flat_encI]; exact hoq)
    obtain ⟨a2, c2, h2, -, -, hrow⟩ := hS
    simp only [Value.slice.injEq] at h2
    obtain ⟨rfl, -, rfl⟩ := h2
    obtain ⟨b, o, e1, -, -, c⟩ := hrow.one hkq
    simp only [encI, List.getElem?_cons_zero] at c
    exact ⟨b, o, e1, c⟩
   obtain ⟨q, hq⟩ : ∃ q, q = Q[k] := ⟨_, rfl⟩
   rw [← hq] at hcq
   obtain ⟨ZS, hZS⟩ : ∃ ZS, ZS = XS ++ ((Q.take k).map fun k => (⟨k, deltaT, k⟩ : Arc)).flatMap encC := ⟨_, rfl⟩
   rw [← hZS] at HOA
   have HNX : Hid (XS ++ ((Q.take (k + 1)).map fun k => (⟨k, deltaT, k⟩ : Arc)).flatMap encC = ZS ++ [.int .i64 q, .string ⟨#[100, 101, 108, 116, 97]⟩, .int .i64 q]) := by
    unfold Hid
    rw [List.take_succ_eq_append_getElem hkq, List.map_append, List.flatMap_append, ← hq, ← List.append_assoc, hZS]
    rfl
   have HLE : Hid (A0 + (k + 1) = A0 + k + 1) := by unfold Hid; omega
   clear hbl hoq hoa hq hZS
   go_wp2_with (at_builtin; refine wpList_append_own _ rfl _ _ 95 rfl WB 111 i0 _ 3 32 Tryz.underlying95 hi0 hz0 hz1 hz2 rfl (by decide) _ (A0 + k) _ rfl (HOA.out.alloc _) ⟨wr.heap.size, 0, none⟩ 1 1 [.int .i64 q, .string ⟨#[100, 101, 108, 116, 97]⟩, .int .i64 q] rfl rfl ?c1 ?c2 ?c3 ?c4 ?c5 ?_)
   case c1 => exact World.news_of_block (cs := #[.int .i64 q, .string ⟨#[100, 101, 108, 116, 97]⟩, .int .i64 q]) (t := 111) (fr := (0, 0)) (heap_alloc_new _ _)
   case c2 => intro u hu; simp at hu; rcases hu with rfl | rfl | rfl <;> rfl
   case c3 => simp [maxLen]; omega
   case c4 => omega
   case c5 => first | omega | (simp; omega)
   intro v7 w7 ho7 hg7 _
   have HB7 : Hid (Below WB wA w7) := (HBL.out.alloc hszr _).grown hg7 (by simp; omega) (fun b e => (HOA.out.lt b e).1)
   have HQ7 : Hid (w7.ownsRow WB 2 1 (.slice (some ⟨b, o, none⟩) N qc) N (Q.map (Value.int .i64))) := (HOQ.out.alloc (.cells #[.int .i64 q, .string ⟨#[100, 101, 108, 116, 97]⟩, .int .i64 q] 111)).kept hg7 (own_types (HOQ.out.alloc (.cells #[.int .i64 q, .string ⟨#[100, 101, 108, 116, 97]⟩, .int .i64 q] 111)) (HOA.out.alloc (.cells #[.int .i64 q, .string ⟨#[100, 101, 108, 116, 97]⟩, .int .i64 q] 111)) (by decide))
   have HO7 : Hid (w7.ownsRow WB 111 3 v7 (A0 + (k + 1)) (XS ++ ((Q.take (k + 1)).map fun k => (⟨k, deltaT, k⟩ : Arc)).flatMap encC)) := by unfold Hid; rw [HNX.out, HLE.out]; exact ho7
   clear ho7 hg7
   go_wp2
   go_roundw
   case rel => exact ⟨k + 1, by omega, by go_num, HB7.out, HQ7.out, HO7.out⟩
   case measure => simp [intOf]; omega
  ·obtain rfl : k = N := by omega
   obtain ⟨WE, hWE⟩ : ∃ WE, WE = wr := ⟨_, rfl⟩
   obtain ⟨CN, hCN⟩ : ∃ CN, CN = A0 + k := ⟨_, rfl⟩
   have hCS : CN = (susArcs t ins).length := by
    unfold susArcs
    rw [List.length_append, List.length_map, List.length_map, ← HQQ.out, ← HNQ.out, hCN, HA0.out]
   have hCX : XS ++ ((Q.take k).map fun k => (⟨k, deltaT, k⟩ : Arc)).flatMap encC = (susArcs t ins).flatMap encC := by
    unfold susArcs
    rw [List.flatMap_append, HXS.out, HNQ.out, List.take_length, HQQ.out]
   rw [hCX, ← hCN] at HOA
   rw [← hCN]
   have hC340 : CN ≤ 340 := by omega
   have HCS := Lib.hid hCS
   obtain ⟨TL, hTL⟩ : ∃ TL, TL = t.labels.length := ⟨_, rfl⟩
   have hTL12 : TL ≤ 12 := by rw [hTL]; exact HIF.out.valid.labels.most
   have HTL := Lib.hid hTL
   rw [← hWE] at HBL HOA hszr ⊢
   obtain ⟨GE, hGE⟩ : ∃ GE, GE = WE.heap.size := ⟨_, rfl⟩
   have HGE := Lib.hid hGE
   have hGW : WB ≤ GE := by rw [hGE]; exact hszr
   have HTE : Hid (Blk WE tb [.int .i64 t.states, .int .i64 t.initial, lv, ev] 29) := HT.out.below (HWB.out ▸ HBL.out)
   have HRE : Hid (Blk WE (tb + 1) [.int .i64 0, .int .i64 0, .slice none 0 0, .slice none 0 0] 29) := HR.out.below (HWB.out ▸ HBL.out)
   have HLE : Hid (SliceK 1 encS lo WE lv t.labels) := HL.out.below (HWB.out ▸ HBL.out)
   have HSW : Hid (∀ w', Below WE.heap.size WE w' → w'.cell? ⟨tb, 0, none⟩ = some (.int .i64 t.states) ∧ w'.cell? ⟨tb, 1, none⟩ = some (.int .i64 t.initial) ∧ w'.cell? ⟨tb, 2, none⟩ = some lv) := fun w' hb =>
    ⟨(HTE.out.below hb).cell 0 rfl, (HTE.out.below hb).cell 1 rfl, (HTE.out.below hb).cell 2 rfl⟩
   have HRW : Hid (∀ w', Below WE.heap.size WE w' → Blk w' (tb + 1) [.int .i64 0, .int .i64 0, .slice none 0 0, .slice none 0 0] 29) := fun w' hb => HRE.out.below hb
   have hD : Below WE.heap.size WE WE.drew := (Below.refl _ _).drew
   have hDA : ∀ o, Below WE.heap.size WE (WE.drew.alloc o) := fun o => hD.alloc (by simp) _
   have HD := Lib.hid hD
   have HDA := Lib.hid hDA
   have HCL : Hid (∀ w', Below WE.heap.size WE w' → Calls Tryz.prog 81 #[lv] w' fun e w'' => ∃ v', e = .returned v' ∧ w''.ownsRow GE 9 1 v' TL (t.labels.map Value.string) ∧ Below w'.heap.size w' w'') := fun w' hb => by
    refine (CloneS_own lo lv t.labels w' (HLE.out.below hb) (by have := HTL.out; omega)).mono ?_
    rintro e w'' ⟨v', rfl, ho, hb2⟩
    refine ⟨v', rfl, ?_, hb2⟩
    rw [HTL.out, HGE.out]
    exact own_lower ho hb.size
   have HLT : Hid (∀ w' sv, Below WE.heap.size WE w' → w'.ownsRow GE 9 1 sv (TL + 1) (t.labels.map Value.string ++ [.string ⟨#[100, 101, 108, 116, 97]⟩]) → Calls Tryz.prog 63 #[.int .i64 t.states, .int .i64 t.initial, sv, .slice va CN vc] w' (RetLts t.states t.initial (susL t) (susT t ins).edges w')) := fun w' sv hb ho => by
    refine lts_anyG WB t.states t.initial (t.labels ++ [deltaT]) (susArcs t ins) sv (.slice va CN vc) w' (SrcS.of_own (e := 9) (base := GE) ?_) (SliceK.of_owns (enc := encC) (e := 111) encC_len HCS.out (owns_below HOA.out hb)) ?_ ?_ (susL t) rfl (arcs_in HIF.out.valid ins) (sortEs_rise (sus_nodup HIF.out))
    ·rw [List.length_append, ← HTL.out, List.map_append]; exact ho
    ·rw [List.length_append, ← HTL.out]; simp; omega
    ·rw [← HCS.out]; omega
   have tq0 := (HSW.out WE (Below.refl _ _)).1
   have tq1 := (HSW.out WE (Below.refl _ _)).2.1
   have tq2 := (HSW.out WE (Below.refl _ _)).2.2
   have htl := HTE.out.lt
   have hrl := HRE.out.lt
   obtain ⟨la, lc, hlv, -⟩ := id HLE.out
   rw [hlv, ← HTL.out] at HSW HCL tq2
   clear hbl hoq hoa hWE hCN hCS hCX hTL hGE hD hDA hlv
   go_wp2
   go_region_held3 (fun w' => w'.cell? ⟨tb, 0, none⟩ = some (.int .i64 t.states) ∧ w'.cell? ⟨tb, 1, none⟩ = some (.int .i64 t.initial) ∧ w'.cell? ⟨tb, 2, none⟩ = some (.slice la TL lc))
    (first
     | exact HSW.out _ (Below.refl _ _)
     | exact HSW.out _ HD.out
     | exact HSW.out _ (HDA.out _)
     | exact HSW.out _ hq9
     | exact HSW.out _ (hq9.alloc hs9 _)
     | exact HSW.out _ hq5
     | exact HSW.out _ (hq5.alloc hs5 _)
     | exact HSW.out _ hqL
     | go_keep)
    (first
     | (go_at_call 81; refine Calls.mono (HCL.out _ (by first | exact HD.out | exact HDA.out _)) ?_; rintro e w9 ⟨cv, rfl, hoC, hbC⟩; have hq9 : Below WE.heap.size WE w9 := (by first | exact HD.out.trans (hbC.mono (by simp)) | exact (HDA.out _).trans (hbC.mono (by simp))); have hs9 := hq9.size; have HOC := Lib.hid hoC)
     | (refine step_append_lies _ (by rfl) _ _ 22 (by rfl) GE 9 i1 _ 1 16 Tryz.underlying22 hi1 hz10 hz11 hz12 rfl (by omega) cv TL (t.labels.map Value.string) (by rfl) (HOC.out.alloc _) ⟨w9.heap.size, 0, none⟩ 1 1 [.string ⟨#[100, 101, 108, 116, 97]⟩] (by rfl) (by rfl) (World.news_of_block (cs := #[.string ⟨#[100, 101, 108, 116, 97]⟩]) (t := 9) (fr := (0, 0)) (heap_alloc_new _ _)) (by simp [Value.oneCell']) (by omega) (by simp [maxLen]; omega) (by omega) (by have := HGE.out; simp; omega) (w9.heap.size + 1) (by simp) ?_; intro gg1 cap1 w5 hown5 hgrow5 hat5 hlt5; have hq5 : Below WE.heap.size WE w5 := ((hq9.alloc hs9 _).grown hgrow5 (by simp; omega) (fun b e => by have := (HOC.out.lt b e).1; have := HGE.out; omega)); have hs5 := hq5.size; have HO5 := Lib.hid hown5)
     | (refine step_append_lies _ (by rfl) _ _ 22 (by rfl) GE 9 i1 _ 1 16 Tryz.underlying22 hi1 hz10 hz11 hz12 rfl (by omega) cv TL (t.labels.map Value.string) (by rfl) HOC.out ⟨WE.heap.size, 0, none⟩ 1 1 [.string ⟨#[100, 101, 108, 116, 97]⟩] (by rfl) (by rfl) (World.news_of_block (cs := #[.string ⟨#[100, 101, 108, 116, 97]⟩]) (t := 9) (fr := (0, 0)) ((hbC.block WE.heap.size (by simp)).trans (heap_alloc_new WE.drew _))) (by simp [Value.oneCell']) (by omega) (by simp [maxLen]; omega) (by omega) (by have := HGE.out; omega) w9.heap.size (by rfl) ?_; intro gg1 cap1 w5 hown5 hgrow5 hat5 hlt5; have hq5 : Below WE.heap.size WE w5 := (hq9.grown hgrow5 hs9 (fun b e => by have := (HOC.out.lt b e).1; have := HGE.out; omega)); have hs5 := hq5.size; have HO5 := Lib.hid hown5)
     | (go_at_call 63; refine Calls.mono (HLT.out _ _ hq5 HO5.out) ?_; rintro e wL ⟨lv2, ev2, he2, hbL, hlL, heL⟩; obtain ⟨la2, lc2, rfl, -, -⟩ := owns_slice hlL; obtain ⟨ea2, ec2, rfl, -, -⟩ := owns_slice heL; subst he2; have hqL : Below WE.heap.size WE wL := hq5.trans (hbL.mono hs5); have HRL := Lib.hid (HRW.out _ hqL); have r0 := HRL.out.cell 0 rfl; have r1 := HRL.out.cell 1 rfl; have r2 := HRL.out.cell 2 rfl; have r3 := HRL.out.cell 3 rfl; have s0 := HRL.out.frozen 0; have s1 := HRL.out.frozen 1; have s2 := HRL.out.frozen 2; have s3 := HRL.out.frozen 3; have HLL := Lib.hid hlL; have HEL := Lib.hid heL))
   all_goals (
    have hle : w.heap.size ≤ tb + 1 := by rw [HTB.out]; omega
    have hWA : w.heap.size ≤ WB := by rw [HWB.out]; exact HBA.out.size
    have hle3 : w.heap.size ≤ w5.heap.size := Nat.le_trans hWA (Nat.le_trans hszr hs5)
    have HALL : Hid (Below w.heap.size w wL) := HBA.out.trans ((HBL.out.trans (hqL.mono hszr)).mono hWA)
    have HLL2 := Lib.hid (own_lower HLL.out hle3)
    have HEL2 := Lib.hid (own_lower HEL.out hle3)
    clear hle3 HLL HEL hown5 hgrow5 hat5 hlt5 hqL hq5 hq9 hbL hlL heL hbC hoC
    go_wp2
    refine bodyPost_ret (sus_results rfl ((((HRL.out.set 0 _).set 1 _).set 2 _).set 3 _)) rfl ?_
    exact ⟨_, _, rfl, (((HALL.out.setCell hle _).setCell hle _).setCell hle _).setCell hle _, own4 HRL.out HLL2.out (by decide), own4 HRL.out HEL2.out (by decide)⟩)

end Go.Proofs.YtaabkeejbhdenaaGreatDoor

namespace Go.Proofs.YtaabkeejbhdenaaGreatDoor
open Go Go.RowKit

set_option maxRecDepth 100000 in
theorem vi1_any (s : ByteArray) (w : World) (hs : s.size ≤ 1048576) (hl : labelOk s.data.toList = true) (g : Glob w) :
  Calls Tryz.prog 76 #[.string s] w fun e w' => e = .returned (.bool (labName s == deltaB)) ∧ Below w.heap.size w w' := by
 have HN := Lib.hid (LabelName_any s w hs hl g)
 have HO := Lib.hid (name_bytes s)
 obtain ⟨nm, hnm⟩ : ∃ nm : ByteArray, nm = ⟨(labName s).toArray⟩ := ⟨_, rfl⟩
 rw [← hnm] at HN HO
 clear g hs hl hnm
 go_enter Tryz.func76, Tryz.ntmps76
 go_wp2_with fail
 refine Calls.mono HN.out ?_
 rintro e w1 ⟨rfl, hb1⟩
 have HB1 := Lib.hid hb1
 clear hb1 HN
 go_wp2
 go_ret
 exact ⟨ret_bool (by rw [HO.out]; rfl), HB1.out⟩

theorem if_iff {t : Lts} {ins : List ByteArray} : IfOk t ins ↔ Valid t ∧ NamesUp ins ∧ (ins.any fun y => y.toList == (⟨#[100, 101, 108, 116, 97]⟩ : ByteArray).toList) = false ∧ (t.labels.any fun s => labName s == deltaB) = false := by
 rw [show (⟨#[100, 101, 108, 116, 97]⟩ : ByteArray).toList = deltaB from deltaT_list, List.any_eq_false, List.any_eq_false]
 constructor
 ·intro h
  exact ⟨h.valid, ⟨h.acts, h.rise⟩, fun s hs hh => h.nodelta s hs (eq_of_beq hh), fun l hl hh => h.names l hl (eq_of_beq hh)⟩
 ·rintro ⟨h1, ⟨h2, h3⟩, h4, h5⟩
  exact ⟨h1, h2, h3, fun s hs hh => h4 s hs (by rw [hh]; exact beq_self_eq_true _), fun l hl hh => h5 l hl (by rw [hh]; exact beq_self_eq_true _)⟩

set_option maxRecDepth 100000 in
set_option maxHeartbeats 2000000 in
theorem ValidInterface_any (lo : Nat) (t : Lts) (lv ev v : Value) (ins : List ByteArray) (w : World) (hsh : Short20 t.labels) (hsi : Short20 ins) (hl : SliceK 1 encS lo w lv t.labels) (he : SliceK 3 encE lo w ev t.edges) (hi : SliceK 1 encS lo w v ins) (g : Glob w) :
  Calls Tryz.prog 33 #[.agg #[.int .i64 t.states, .int .i64 t.initial, lv, ev], v] w (Decides (IfOk t ins) w) := by
 obtain ⟨tb, htb⟩ : ∃ tb, tb = w.heap.size := ⟨_, rfl⟩
 obtain ⟨wA, hwA⟩ : ∃ wA, wA = w.alloc (.cells #[.int .i64 t.states, .int .i64 t.initial, lv, ev] 29) := ⟨_, rfl⟩
 have hbA : Below w.heap.size w wA := by rw [hwA]; exact (Below.refl _ _).alloc (Nat.le_refl _) _
 have hT : Blk wA tb [.int .i64 t.states, .int .i64 t.initial, lv, ev] 29 := by rw [hwA, htb]; exact Blk.new w _ _
 have HSH := Lib.hid hsh
 have HSI := Lib.hid hsi
 have HL := Lib.hid (hl.below hbA)
 have HE := Lib.hid (he.below hbA)
 have HI := Lib.hid (hi.below hbA)
 have HG := Lib.hid (g.below hbA)
 have HBA := Lib.hid hbA
 have HT := Lib.hid hT
 have HWA := Lib.hid hwA
 have HTB := Lib.hid htb
 clear hsh hsi hl he hi g hbA hT hwA htb
 by_cases hv : Valid t
 ·have HV := Lib.hid hv
  have HVA := Lib.hid (Valid_yes hv HSH.out HL.out HE.out HG.out)
  clear hv
  go_enter Tryz.func33, Tryz.ntmps33
  go_wp2_with fail
  rw [← HWA.out]
  refine Calls.mono HVA.out ?_
  rintro e w1 ⟨rfl, hb1⟩
  have HB1 := Lib.hid hb1
  have HNI := namesIncrease_any lo v ins w1 HSI.out (HI.out.below hb1)
  by_cases hn : NamesUp ins
  ·have HN := Lib.hid hn
   have HNA := Lib.hid (Decides.yes HNI hn)
   clear hn HNI hb1
   go_wp2_with fail
   refine Calls.mono HNA.out ?_
   rintro e w2 ⟨rfl, hb2⟩
   have HB2 := Lib.hid (HB1.out.trans (hb2.mono HB1.out.size))
   have HC := Lib.hid (Contains_strs lo v ⟨#[100, 101, 108, 116, 97]⟩ ins w2 (HI.out.below HB2.out))
   have t2 := (HT.out.below HB2.out).cell 2 rfl
   clear hb2 HNA
   cases hd : ins.any fun y => y.toList == (⟨#[100, 101, 108, 116, 97]⟩ : ByteArray).toList
   ·have HD := Lib.hid hd
    rw [hd] at HC
    have HF := Lib.hid (ContainsFuncS lo lv t.labels 76 #[] (fun s => labName s == deltaB) w2 (HL.out.below HB2.out) (fun args w => by kernel_rfl)
     fun w3 hb3 x hx => vi1_any x w3 (short_mem HSH.out x hx) (lab_ok HV.out x hx) ((HG.out.below HB2.out).below hb3))
    clear hd
    go_wp2_with fail
    refine Calls.mono HC.out ?_
    rintro e w3 ⟨rfl, rfl⟩
    rw [← HTB.out]
    go_wp2_with fail
    refine Calls.mono HF.out ?_
    rintro e w4 ⟨rfl, hb4⟩
    have HB4 := Lib.hid (HB2.out.trans (hb4.mono HB2.out.size))
    clear hb4 HF t2
    go_wp2
    go_ret
    refine ⟨_, rfl, ?_, HBA.out.trans (HB4.out.mono HBA.out.size)⟩
    rw [if_iff]
    rw [Bool.not_eq_true']
    exact ⟨fun h => ⟨HV.out, HN.out, HD.out, h⟩, fun h => h.2.2.2⟩
   ·have HD := Lib.hid hd
    rw [hd] at HC
    clear hd
    go_wp2_with fail
    refine Calls.mono HC.out ?_
    rintro e w3 ⟨rfl, rfl⟩
    go_wp2
    go_ret
    refine ⟨false, rfl, ?_, HBA.out.trans (HB2.out.mono HBA.out.size)⟩
    rw [if_iff, HD.out]
    exact ⟨fun h => (by cases h), fun h => (by cases h.2.2.1)⟩
  ·have HN := Lib.hid hn
   have HNA := Lib.hid (Decides.no HNI hn)
   clear hn HNI hb1
   go_wp2_with fail
   refine Calls.mono HNA.out ?_
   rintro e w2 ⟨rfl, hb2⟩
   have HB2 := Lib.hid (HB1.out.trans (hb2.mono HB1.out.size))
   clear hb2 HNA
   go_wp2
   go_ret
   refine ⟨false, rfl, ?_, HBA.out.trans (HB2.out.mono HBA.out.size)⟩
   exact ⟨fun h => (by cases h), fun h => absurd ⟨h.acts, h.rise⟩ HN.out⟩
 ·have HV := Lib.hid hv
  have HVA := Lib.hid (Valid_no hv HSH.out HL.out HE.out HG.out)
  clear hv
  go_enter Tryz.func33, Tryz.ntmps33
  go_wp2_with fail
  rw [← HWA.out]
  refine Calls.mono HVA.out ?_
  rintro e w1 ⟨rfl, hb1⟩
  have HB1 := Lib.hid hb1
  clear hb1 HVA
  go_wp2
  go_ret
  refine ⟨false, rfl, ?_, HBA.out.trans (HB1.out.mono HBA.out.size)⟩
  exact ⟨fun h => (by cases h), fun h => absurd h.valid HV.out⟩

theorem chk_results {w : World} {b : Nat} {v0 v1 v2 v3 : Value} {tmps : Array Value} (hc : tmps.getD 2 undef = .pointer (some ⟨b, 0, none⟩)) (hb : Blk w b [v0, v1, v2, v3] 29) :
  (results Tryz.f125 tmps).run Tryz.prog w = .ok (.tuple #[.agg #[v0, v1, v2, v3], tmps.getD 3 undef]) w := by
 have h0 := hb.cell 0 rfl
 have h1 := hb.cell 1 rfl
 have h2 := hb.cell 2 rfl
 have h3 := hb.cell 3 rfl
 simp only [Array.getD_eq_getD_getElem?] at hc
 simp [results, Tryz.results125, go_sem, hc, h0, h1, h2, h3, Result.andThen]

set_option maxRecDepth 100000 in
set_option maxHeartbeats 2000000 in
theorem checked_any (lo : Nat) (t : Lts) (lv ev : Value) (w : World) (hsh : Short20 t.labels) (hl : SliceK 1 encS lo w lv t.labels) (he : SliceK 3 encE lo w ev t.edges) (g : Glob w) :
  Calls Tryz.prog 125 #[.agg #[.int .i64 t.states, .int .i64 t.initial, lv, ev]] w fun e w' => Below w.heap.size w w' ∧ ((Valid t ∧ e = .returned (.tuple #[.agg #[.int .i64 t.states, .int .i64 t.initial, lv, ev], .int .i64 0])) ∨ (¬ Valid t ∧ e = .returned (.tuple #[.agg #[.int .i64 0, .int .i64 0, .slice none 0 0, .slice none 0 0], .int .i64 5]))) := by
 obtain ⟨la, lc, rfl, -⟩ := id hl
 obtain ⟨ea, ec, rfl, -⟩ := id he
 generalize hLN : t.labels.length = LN at hl ⊢
 generalize hEN : t.edges.length = EN at he ⊢
 obtain ⟨tb, htb⟩ : ∃ tb, tb = w.heap.size := ⟨_, rfl⟩
 obtain ⟨wA, hwA⟩ : ∃ wA, wA = (w.alloc (.cells #[.int .i64 t.states, .int .i64 t.initial, .slice la LN lc, .slice ea EN ec] 29)).alloc (.cells #[.int .i64 0, .int .i64 0, .slice none 0 0, .slice none 0 0] 29) := ⟨_, rfl⟩
 have hbA : Below w.heap.size w wA := by rw [hwA]; exact ((Below.refl _ _).alloc (Nat.le_refl _) _).alloc (by simp) _
 have hT : Blk wA tb [.int .i64 t.states, .int .i64 t.initial, .slice la LN lc, .slice ea EN ec] 29 := by rw [hwA, htb]; exact (Blk.new w _ _).alloc _
 have hR : Blk wA (tb + 1) [.int .i64 0, .int .i64 0, .slice none 0 0, .slice none 0 0] 29 := by
  have := Blk.new (w.alloc (.cells #[.int .i64 t.states, .int .i64 t.initial, .slice la LN lc, .slice ea EN ec] 29)) [.int .i64 0, .int .i64 0, .slice none 0 0, .slice none 0 0] 29
  rw [World.size_alloc, ← htb] at this
  rw [hwA]
  exact this
 have HSH := Lib.hid hsh
 have HL := Lib.hid (hl.below hbA)
 have HE := Lib.hid (he.below hbA)
 have HG := Lib.hid (g.below hbA)
 have HBA := Lib.hid hbA
 have HT := Lib.hid hT
 have HR := Lib.hid hR
 have HWA := Lib.hid hwA
 have HTB := Lib.hid htb
 have hsW : w.heap.size ≤ wA.heap.size := hbA.size
 have hle : w.heap.size ≤ tb + 1 := by rw [htb]; omega
 clear hsh hl he g hwA hbA hT hR htb hLN hEN
 by_cases hv : Valid t
 ·have HV := Lib.hid hv
  have HVA := Lib.hid (Valid_yes hv HSH.out HL.out HE.out HG.out)
  clear hv
  go_enter Tryz.func125, Tryz.ntmps125
  go_wp2_with fail
  rw [← HWA.out]
  refine Calls.mono HVA.out ?_
  rintro e w1 ⟨rfl, hb1⟩
  have HB1 := Lib.hid hb1
  have HR1 := Lib.hid (HR.out.below hb1)
  have HT1 := Lib.hid (HT.out.below hb1)
  have t0 := HT1.out.cell 0 rfl
  have t1 := HT1.out.cell 1 rfl
  have t2 := HT1.out.cell 2 rfl
  have t3 := HT1.out.cell 3 rfl
  have r0 := HR1.out.cell 0 rfl
  have r1 := HR1.out.cell 1 rfl
  have r2 := HR1.out.cell 2 rfl
  have r3 := HR1.out.cell 3 rfl
  have s0 := HR1.out.frozen 0
  have s1 := HR1.out.frozen 1
  have s2 := HR1.out.frozen 2
  have s3 := HR1.out.frozen 3
  clear hb1
  rw [← HTB.out]
  go_wp2
  refine bodyPost_ret (chk_results rfl ((((HR1.out.set 0 _).set 1 _).set 2 _).set 3 _)) rfl ?_
  exact ⟨((((HBA.out.trans (HB1.out.mono hsW)).setCell hle _).setCell hle _).setCell hle _).setCell hle _, .inl ⟨HV.out, rfl⟩⟩
 ·have HV := Lib.hid hv
  have HVA := Lib.hid (Valid_no hv HSH.out HL.out HE.out HG.out)
  clear hv
  go_enter Tryz.func125, Tryz.ntmps125
  go_wp2_with fail
  rw [← HWA.out]
  refine Calls.mono HVA.out ?_
  rintro e w1 ⟨rfl, hb1⟩
  have HB1 := Lib.hid hb1
  have HR1 := Lib.hid (HR.out.below hb1)
  have r0 := HR1.out.cell 0 rfl
  have r1 := HR1.out.cell 1 rfl
  have r2 := HR1.out.cell 2 rfl
  have r3 := HR1.out.cell 3 rfl
  have s0 := HR1.out.frozen 0
  have s1 := HR1.out.frozen 1
  have s2 := HR1.out.frozen 2
  have s3 := HR1.out.frozen 3
  clear hb1
  rw [← HTB.out]
  go_wp2
  refine bodyPost_ret (chk_results rfl ((((HR1.out.set 0 _).set 1 _).set 2 _).set 3 _)) rfl ?_
  exact ⟨((((HBA.out.trans (HB1.out.mono hsW)).setCell hle _).setCell hle _).setCell hle _).setCell hle _, .inr ⟨HV.out, rfl⟩⟩

end Go.Proofs.YtaabkeejbhdenaaGreatDoor

namespace Go.Proofs.YtaabkeejbhdenaaGreatDoor
open Go Go.RowKit

theorem sl_results {w : World} {b : Nat} {v0 v1 v2 v3 : Value} {tmps : Array Value} (hc : tmps.getD 4 undef = .pointer (some ⟨b, 0, none⟩)) (hb : Blk w b [v0, v1, v2, v3] 29) :
  (results Tryz.f78 tmps).run Tryz.prog w = .ok (.tuple #[.agg #[v0, v1, v2, v3], tmps.getD 5 undef]) w := by
 have h0 := hb.cell 0 rfl
 have h1 := hb.cell 1 rfl
 have h2 := hb.cell 2 rfl
 have h3 := hb.cell 3 rfl
 simp only [Array.getD_eq_getD_getElem?] at hc
 simp [results, Tryz.results78, go_sem, hc, h0, h1, h2, h3, Result.andThen]

set_option maxRecDepth 100000 in
set_option maxHeartbeats 4000000 in
theorem SuspensionLts_any (lo : Nat) (t : Lts) (lv ev v : Value) (ins : List ByteArray) (w : World) (hsh : Short20 t.labels) (hsi : Short20 ins) (hl : SliceK 1 encS lo w lv t.labels) (he : SliceK 3 encE lo w ev t.edges) (hi : SliceK 1 encS lo w v ins) (g : Glob w) :
  Calls Tryz.prog 78 #[.agg #[.int .i64 t.states, .int .i64 t.initial, lv, ev], v] w (RetSl t ins w) := by
 obtain ⟨tb, htb⟩ : ∃ tb, tb = w.heap.size := ⟨_, rfl⟩
 obtain ⟨wA, hwA⟩ : ∃ wA, wA = (w.alloc (.cells #[.int .i64 t.states, .int .i64 t.initial, lv, ev] 29)).alloc (.cells #[.int .i64 0, .int .i64 0, .slice none 0 0, .slice none 0 0] 29) := ⟨_, rfl⟩
 have hbA : Below w.heap.size w wA := by rw [hwA]; exact ((Below.refl _ _).alloc (Nat.le_refl _) _).alloc (by simp) _
 have hT : Blk wA tb [.int .i64 t.states, .int .i64 t.initial, lv, ev] 29 := by rw [hwA, htb]; exact (Blk.new w _ _).alloc _
 have hR : Blk wA (tb + 1) [.int .i64 0, .int .i64 0, .slice none 0 0, .slice none 0 0] 29 := by
  have := Blk.new (w.alloc (.cells #[.int .i64 t.states, .int .i64 t.initial, lv, ev] 29)) [.int .i64 0, .int .i64 0, .slice none 0 0, .slice none 0 0] 29
  rw [World.size_alloc, ← htb] at this
  rw [hwA]
  exact this
 have HSH := Lib.hid hsh
 have HSI := Lib.hid hsi
 have HL := Lib.hid (hl.below hbA)
 have HE := Lib.hid (he.below hbA)
 have HI := Lib.hid (hi.below hbA)
 have HG := Lib.hid (g.below hbA)
 have HBA := Lib.hid hbA
 have HT := Lib.hid hT
 have HR := Lib.hid hR
 have HWA := Lib.hid hwA
 have HTB := Lib.hid htb
 have hsW : w.heap.size ≤ wA.heap.size := hbA.size
 have hle : w.heap.size ≤ tb + 1 := by rw [htb]; omega
 have HVI := ValidInterface_any lo t lv ev v ins wA hsh hsi HL.out HE.out HI.out HG.out
 clear hsh hsi hl he hi g hwA hbA hT hR htb
 by_cases hif : IfOk t ins
 ·have HIF := Lib.hid hif
  have HVA := Lib.hid (Decides.yes HVI hif)
  clear hif HVI
  go_enter Tryz.func78, Tryz.ntmps78
  go_wp2_with fail
  rw [← HWA.out]
  refine Calls.mono HVA.out ?_
  rintro e w1 ⟨rfl, hb1⟩
  have HB1 := Lib.hid hb1
  have HT1 := Lib.hid (HT.out.below hb1)
  have t0 := HT1.out.cell 0 rfl
  have t1 := HT1.out.cell 1 rfl
  have t2 := HT1.out.cell 2 rfl
  have t3 := HT1.out.cell 3 rfl
  have HSU := Lib.hid (suspension_any lo t lv ev v ins w1 HIF.out (HL.out.below hb1) (HE.out.below hb1) (HI.out.below hb1) HSH.out (HG.out.below hb1))
  clear hb1 HVA
  rw [← HTB.out]
  go_wp2_with fail
  refine Calls.mono HSU.out ?_
  rintro e w2 ⟨lv2, ev2, rfl, hb2, hl2, he2⟩
  have HB2 := Lib.hid (HB1.out.trans (hb2.mono HB1.out.size))
  have HLO := Lib.hid (own_lower hl2 HB1.out.size)
  have HEO := Lib.hid (own_lower he2 HB1.out.size)
  obtain ⟨la, lc, rfl, -, -⟩ := owns_slice hl2
  obtain ⟨ea, ec, rfl, -, -⟩ := owns_slice he2
  have HCK := Lib.hid (checked_any w1.heap.size (susT t ins) (.slice la (susL t).length lc) (.slice ea (susT t ins).edges.length ec) w2 (susL_short HSH.out) (SliceK.of_owns (enc := encS) (e := 9) encS_len rfl (by rw [flat_encS]; exact hl2)) (SliceK.of_owns (enc := encE) (e := 73) encE_len rfl he2) (HG.out.below HB2.out))
  have HCK2 : Hid (Calls Tryz.prog 125 #[.agg #[.int .i64 t.states, .int .i64 t.initial, .slice la (susL t).length lc, .slice ea (susT t ins).edges.length ec]] w2 fun e w' => Below w2.heap.size w2 w' ∧ ((Valid (susT t ins) ∧ e = .returned (.tuple #[.agg #[.int .i64 t.states, .int .i64 t.initial, .slice la (susL t).length lc, .slice ea (susT t ins).edges.length ec], .int .i64 0])) ∨ (¬ Valid (susT t ins) ∧ e = .returned (.tuple #[.agg #[.int .i64 0, .int .i64 0, .slice none 0 0, .slice none 0 0], .int .i64 5])))) := HCK.out
  obtain ⟨LN, hLN⟩ : ∃ LN, LN = (susL t).length := ⟨_, rfl⟩
  obtain ⟨EN, hEN⟩ : ∃ EN, EN = (susT t ins).edges.length := ⟨_, rfl⟩
  rw [← hLN, ← hEN] at HCK2
  rw [← hLN] at HLO
  rw [← hEN] at HEO
  rw [← hLN, ← hEN]
  have HLN := Lib.hid hLN
  have HEN := Lib.hid hEN
  clear hb2 hl2 he2 HSU HCK t0 t1 t2 t3 hLN hEN
  go_wp2_with fail
  refine Calls.mono HCK2.out ?_
  rintro e w3 ⟨hb3, ⟨hv, rfl⟩ | ⟨hv, rfl⟩⟩
  ·have HV := Lib.hid hv
   have HB3 := Lib.hid (HB2.out.trans (hb3.mono HB2.out.size))
   have HR3 := Lib.hid (HR.out.below HB3.out)
   have HL3 := Lib.hid (own_lower (owns_below HLO.out hb3) hsW)
   have HE3 := Lib.hid (own_lower (owns_below HEO.out hb3) hsW)
   have r0 := HR3.out.cell 0 rfl
   have r1 := HR3.out.cell 1 rfl
   have r2 := HR3.out.cell 2 rfl
   have r3 := HR3.out.cell 3 rfl
   have s0 := HR3.out.frozen 0
   have s1 := HR3.out.frozen 1
   have s2 := HR3.out.frozen 2
   have s3 := HR3.out.frozen 3
   clear hb3 hv HCK2
   go_wp2
   refine bodyPost_ret (sl_results rfl ((((HR3.out.set 0 _).set 1 _).set 2 _).set 3 _)) rfl ?_
   refine ⟨((((HBA.out.trans (HB3.out.mono hsW)).setCell hle _).setCell hle _).setCell hle _).setCell hle _, susT t ins, 0, .slice la LN lc, .slice ea EN ec, rfl, .inr (.inr ⟨HIF.out, HV.out, rfl, rfl⟩), ?_, ?_⟩
   ·show World.ownsRow _ _ _ _ _ (susL t).length _
    rw [← HLN.out]; exact own4 HR3.out HL3.out (by decide)
   ·show World.ownsRow _ _ _ _ _ (susT t ins).edges.length _
    rw [← HEN.out]; exact own4 HR3.out HE3.out (by decide)
  ·have HV := Lib.hid hv
   have HB3 := Lib.hid (HB2.out.trans (hb3.mono HB2.out.size))
   have HR3 := Lib.hid (HR.out.below HB3.out)
   have r0 := HR3.out.cell 0 rfl
   have r1 := HR3.out.cell 1 rfl
   have r2 := HR3.out.cell 2 rfl
   have r3 := HR3.out.cell 3 rfl
   have s0 := HR3.out.frozen 0
   have s1 := HR3.out.frozen 1
   have s2 := HR3.out.frozen 2
   have s3 := HR3.out.frozen 3
   clear hb3 hv HCK2
   go_wp2
   refine bodyPost_ret (sl_results rfl ((((HR3.out.set 0 _).set 1 _).set 2 _).set 3 _)) rfl ?_
   exact sl_none (((((HBA.out.trans (HB3.out.mono hsW)).setCell hle _).setCell hle _).setCell hle _).setCell hle _) (.inr (.inl ⟨HIF.out, HV.out, rfl, rfl⟩))
 ·have HIF := Lib.hid hif
  have HVA := Lib.hid (Decides.no HVI hif)
  clear hif HVI
  go_enter Tryz.func78, Tryz.ntmps78
  go_wp2_with fail
  rw [← HWA.out]
  refine Calls.mono HVA.out ?_
  rintro e w1 ⟨rfl, hb1⟩
  have HB1 := Lib.hid hb1
  have HR1 := Lib.hid (HR.out.below hb1)
  have r0 := HR1.out.cell 0 rfl
  have r1 := HR1.out.cell 1 rfl
  have r2 := HR1.out.cell 2 rfl
  have r3 := HR1.out.cell 3 rfl
  have s0 := HR1.out.frozen 0
  have s1 := HR1.out.frozen 1
  have s2 := HR1.out.frozen 2
  have s3 := HR1.out.frozen 3
  clear hb1 HVA
  rw [← HTB.out]
  go_wp2
  refine bodyPost_ret (sl_results rfl ((((HR1.out.set 0 _).set 1 _).set 2 _).set 3 _)) rfl ?_
  exact sl_none (((((HBA.out.trans (HB1.out.mono hsW)).setCell hle _).setCell hle _).setCell hle _).setCell hle _) (.inl ⟨HIF.out, rfl, rfl⟩)

end Go.Proofs.YtaabkeejbhdenaaGreatDoor

namespace Go.Proofs.YtaabkeejbhdenaaGreatDoor
open Go Go.RowKit

theorem idet_results {w : World} {b : Nat} {v0 v1 v2 v3 : Value} {tmps : Array Value} (hc : tmps.getD 2 undef = .pointer (some ⟨b, 0, none⟩)) (hb : Blk w b [v0, v1, v2, v3] 29) :
  (results Tryz.f79 tmps).run Tryz.prog w = .ok (.tuple #[.agg #[v0, v1, v2, v3], tmps.getD 3 undef, tmps.getD 4 undef]) w := by
 have h0 := hb.cell 0 rfl
 have h1 := hb.cell 1 rfl
 have h2 := hb.cell 2 rfl
 have h3 := hb.cell 3 rfl
 simp only [Array.getD_eq_getD_getElem?] at hc
 simp [results, Tryz.results79, go_sem, hc, h0, h1, h2, h3, Result.andThen]

set_option maxRecDepth 100000 in
set_option maxHeartbeats 4000000 in
theorem implDeterminizeLts_any (lo : Nat) (t : Lts) (lv ev : Value) (w : World) (hsh : Short20 t.labels) (hl : SliceK 1 encS lo w lv t.labels) (he : SliceK 3 encE lo w ev t.edges) (g : Glob w) :
  Calls Tryz.prog 79 #[.agg #[.int .i64 t.states, .int .i64 t.initial, lv, ev]] w (RetDet t w) := by
 obtain ⟨tb, htb⟩ : ∃ tb, tb = w.heap.size := ⟨_, rfl⟩
 obtain ⟨wA, hwA⟩ : ∃ wA, wA = (w.alloc (.cells #[.int .i64 t.states, .int .i64 t.initial, lv, ev] 29)).alloc (.cells #[.int .i64 0, .int .i64 0, .slice none 0 0, .slice none 0 0] 29) := ⟨_, rfl⟩
 have hbA : Below w.heap.size w wA := by rw [hwA]; exact ((Below.refl _ _).alloc (Nat.le_refl _) _).alloc (by simp) _
 have hT : Blk wA tb [.int .i64 t.states, .int .i64 t.initial, lv, ev] 29 := by rw [hwA, htb]; exact (Blk.new w _ _).alloc _
 have hR : Blk wA (tb + 1) [.int .i64 0, .int .i64 0, .slice none 0 0, .slice none 0 0] 29 := by
  have := Blk.new (w.alloc (.cells #[.int .i64 t.states, .int .i64 t.initial, lv, ev] 29)) [.int .i64 0, .int .i64 0, .slice none 0 0, .slice none 0 0] 29
  rw [World.size_alloc, ← htb] at this
  rw [hwA]
  exact this
 have HSH := Lib.hid hsh
 have HL := Lib.hid (hl.below hbA)
 have HE := Lib.hid (he.below hbA)
 have HG := Lib.hid (g.below hbA)
 have HBA := Lib.hid hbA
 have HT := Lib.hid hT
 have HR := Lib.hid hR
 have HWA := Lib.hid hwA
 have HTB := Lib.hid htb
 have hsW : w.heap.size ≤ wA.heap.size := hbA.size
 have hle : w.heap.size ≤ tb + 1 := by rw [htb]; omega
 skip
 clear hsh hl he g hwA hbA hT hR htb
 by_cases hv : Valid t
 ·have HV := Lib.hid hv
  have HVA : Hid (Calls Tryz.prog 24 #[.agg #[.int .i64 t.states, .int .i64 t.initial, lv, ev]] wA fun e w' => e = .returned (.bool true) ∧ Below wA.heap.size wA w') := Valid_yes hv HSH.out HL.out HE.out HG.out
  clear hv
  go_enter Tryz.func79, Tryz.ntmps79
  go_wp2_with fail
  rw [← HWA.out]
  refine Calls.mono HVA.out ?_
  rintro e w1 ⟨rfl, hb1⟩
  have HB1 := Lib.hid hb1
  have HR1 := Lib.hid (HR.out.below hb1)
  have HT1 := Lib.hid (HT.out.below hb1)
  have t0 := HT1.out.cell 0 rfl
  have t1 := HT1.out.cell 1 rfl
  have t2 := HT1.out.cell 2 rfl
  have t3 := HT1.out.cell 3 rfl
  have HD : Hid (Calls Tryz.prog 25 #[.agg #[.int .i64 t.states, .int .i64 t.initial, lv, ev]] w1 (RetSets t w1)) := determinize_any lo t lv ev w1 HV.out HSH.out (HL.out.below hb1) (HE.out.below hb1) (HG.out.below hb1)
  clear hb1
  rw [← HTB.out]
  go_wp2_with fail
  refine Calls.mono HD.out ?_
  rintro e w3 ⟨hb3, ⟨hfull, rfl⟩ | ⟨st, lvS, vr, evS, hok, rfl, hmem, hol⟩⟩
  ·obtain ⟨W3, hW3⟩ : ∃ W3, W3 = w3.alloc (.cells #[.int .i64 0, .int .i64 0, .slice none 0 0, .slice none 0 0] 29) := ⟨_, rfl⟩
   have hb4 : Below w3.heap.size w3 W3 := by rw [hW3]; exact (Below.refl _ _).alloc (Nat.le_refl _) _
   have HF := Lib.hid hfull
   have HB4 := Lib.hid (HB1.out.trans ((hb3.trans (hb4.mono hb3.size)).mono HB1.out.size))
   have HR4 := Lib.hid ((HR1.out.below hb3).below hb4)
   have HW3 := Lib.hid hW3
   have r0 := HR4.out.cell 0 rfl
   have r1 := HR4.out.cell 1 rfl
   have r2 := HR4.out.cell 2 rfl
   have r3 := HR4.out.cell 3 rfl
   have s0 := HR4.out.frozen 0
   have s1 := HR4.out.frozen 1
   have s2 := HR4.out.frozen 2
   have s3 := HR4.out.frozen 3
   rw [hW3] at r0 r1 r2 r3 s0 s1 s2 s3
   clear hfull hb3 hb4 hW3 t0 t1 t2 t3
   go_wp2
   rw [← HW3.out]
   refine bodyPost_ret (idet_results rfl ((((HR4.out.set 0 _).set 1 _).set 2 _).set 3 _)) rfl ?_
   exact det_none (((((HBA.out.trans (HB4.out.mono hsW)).setCell hle _).setCell hle _).setCell hle _).setCell hle _) (.inr (.inl ⟨HV.out, HF.out, rfl, rfl, rfl⟩))
  ·obtain ⟨la, lc, rfl, -, -⟩ := owns_slice hol
   obtain ⟨ea, ec, rfl, -, -⟩ := owns_slice hmem.2
   obtain ⟨⟨vs, hiv⟩, hme⟩ := hmem
   obtain ⟨R, hRR⟩ : ∃ R, R = st.rows.length := ⟨_, rfl⟩
   obtain ⟨LN, hLN⟩ : ∃ LN, LN = t.labels.length := ⟨_, rfl⟩
   obtain ⟨EN, hEN⟩ : ∃ EN, EN = st.edges.length := ⟨_, rfl⟩
   have HME := Lib.hid hme
   have HML := Lib.hid hol
   rw [← hLN] at HML
   rw [← hEN] at HME
   rw [← hRR, ← hLN, ← hEN]
   obtain ⟨W3, hW3⟩ : ∃ W3, W3 = w3.alloc (.cells #[.int .i64 R, .int .i64 0, .slice la LN lc, .slice ea EN ec] 29) := ⟨_, rfl⟩
   have hb4 : Below w3.heap.size w3 W3 := by rw [hW3]; exact (Below.refl _ _).alloc (Nat.le_refl _) _
   have hX : Blk W3 w3.heap.size [.int .i64 R, .int .i64 0, .slice la LN lc, .slice ea EN ec] 29 := by rw [hW3]; exact Blk.new _ _ _
   have HOK := Lib.hid hok
   have HB4 := Lib.hid (HB1.out.trans ((hb3.trans (hb4.mono hb3.size)).mono HB1.out.size))
   have HR4 := Lib.hid ((HR1.out.below hb3).below hb4)
   have HW3 := Lib.hid hW3
   have HRR := Lib.hid hRR
   have HLN := Lib.hid hLN
   have HEN := Lib.hid hEN
   have hss := Nat.le_trans hsW HB1.out.size
   have HME4 := Lib.hid (own_lower (owns_below HME.out hb4) hss)
   have HML4 := Lib.hid (own_lower (owns_below HML.out hb4) hss)
   have HIV4 := Lib.hid ((hiv.below hb4).lower hss)
   have r0 := HR4.out.cell 0 rfl
   have r1 := HR4.out.cell 1 rfl
   have r2 := HR4.out.cell 2 rfl
   have r3 := HR4.out.cell 3 rfl
   have s0 := HR4.out.frozen 0
   have s1 := HR4.out.frozen 1
   have s2 := HR4.out.frozen 2
   have s3 := HR4.out.frozen 3
   rw [hW3] at r0 r1 r2 r3 s0 s1 s2 s3
   clear hok hb3 hb4 hW3 t0 t1 t2 t3 hme hiv hol hRR hLN hEN HME HML hX
   go_wp2
   rw [← HW3.out]
   refine bodyPost_ret (idet_results rfl ((((HR4.out.set 0 _).set 1 _).set 2 _).set 3 _)) rfl ?_
   refine ⟨((((HBA.out.trans (HB4.out.mono hsW)).setCell hle _).setCell hle _).setCell hle _).setCell hle _, dSys t st, st.rows, 0, .slice la LN lc, .slice ea EN ec, vr, vs, by rw [HRR.out]; rfl, .inr (.inr ⟨HV.out, st, HOK.out, rfl, rfl, rfl⟩), ⟨?_, ?_⟩, ?_⟩
   ·show World.ownsRow _ _ _ _ _ t.labels.length _
    rw [← HLN.out]; exact own4 HR4.out HML4.out (by decide)
   ·show World.ownsRow _ _ _ _ _ st.edges.length _
    rw [← HEN.out]; exact own4 HR4.out HME4.out (by decide)
   ·exact (((HIV4.out.set1 HR4.out (by decide) (by decide) 0 _).set1 (HR4.out.set 0 _) (by decide) (by decide) 1 _).set1 ((HR4.out.set 0 _).set 1 _) (by decide) (by decide) 2 _).set1 (((HR4.out.set 0 _).set 1 _).set 2 _) (by decide) (by decide) 3 _
 ·have HV := Lib.hid hv
  have HVA : Hid (Calls Tryz.prog 24 #[.agg #[.int .i64 t.states, .int .i64 t.initial, lv, ev]] wA fun e w' => e = .returned (.bool false) ∧ Below wA.heap.size wA w') := Valid_no hv HSH.out HL.out HE.out HG.out
  clear hv
  go_enter Tryz.func79, Tryz.ntmps79
  go_wp2_with fail
  rw [← HWA.out]
  refine Calls.mono HVA.out ?_
  rintro e w1 ⟨rfl, hb1⟩
  have HB1 := Lib.hid hb1
  have HR1 := Lib.hid (HR.out.below hb1)
  have r0 := HR1.out.cell 0 rfl
  have r1 := HR1.out.cell 1 rfl
  have r2 := HR1.out.cell 2 rfl
  have r3 := HR1.out.cell 3 rfl
  have s0 := HR1.out.frozen 0
  have s1 := HR1.out.frozen 1
  have s2 := HR1.out.frozen 2
  have s3 := HR1.out.frozen 3
  clear hb1
  rw [← HTB.out]
  go_wp2
  refine bodyPost_ret (idet_results rfl ((((HR1.out.set 0 _).set 1 _).set 2 _).set 3 _)) rfl ?_
  exact det_none (((((HBA.out.trans (HB1.out.mono hsW)).setCell hle _).setCell hle _).setCell hle _).setCell hle _) (.inl ⟨HV.out, rfl, rfl, rfl⟩)

end Go.Proofs.YtaabkeejbhdenaaGreatDoor

namespace Go.Proofs.YtaabkeejbhdenaaGreatDoor
open Go Go.RowKit

theorem sa_results {w : World} {b : Nat} {v0 v1 v2 v3 : Value} {tmps : Array Value} (hc : tmps.getD 4 undef = .pointer (some ⟨b, 0, none⟩)) (hb : Blk w b [v0, v1, v2, v3] 29) :
  (results Tryz.f34 tmps).run Tryz.prog w = .ok (.tuple #[.agg #[v0, v1, v2, v3], tmps.getD 5 undef, tmps.getD 6 undef]) w := by
 have h0 := hb.cell 0 rfl
 have h1 := hb.cell 1 rfl
 have h2 := hb.cell 2 rfl
 have h3 := hb.cell 3 rfl
 simp only [Array.getD_eq_getD_getElem?] at hc
 simp [results, Tryz.results34, go_sem, hc, h0, h1, h2, h3, Result.andThen]

theorem sl_cases {t : Lts} {ins : List ByteArray} {w w' : World} {e : Ending} (h : RetSl t ins w e w') : Below w.heap.size w w' ∧ ((∃ la lc ea ec code, (code = 1 ∨ code = 5) ∧ e = .returned (.tuple #[.agg #[.int .i64 0, .int .i64 0, .slice la 0 lc, .slice ea 0 ec], .int .i64 code]) ∧ SaIs t ins ⟨0, 0, [], []⟩ [] code)
  ∨ (IfOk t ins ∧ Valid (susT t ins) ∧ ∃ la lc ea ec, e = .returned (.tuple #[.agg #[.int .i64 (susT t ins).states, .int .i64 (susT t ins).initial, .slice la (susT t ins).labels.length lc, .slice ea (susT t ins).edges.length ec], .int .i64 0]) ∧ OwnLts w.heap.size w' (.slice la (susT t ins).labels.length lc) (.slice ea (susT t ins).edges.length ec) (susT t ins))) := by
 obtain ⟨hb, d, code, lv, ev, rfl, hsl, hol⟩ := h
 refine ⟨hb, ?_⟩
 obtain ⟨la, lc, rfl, -, -⟩ := owns_slice hol.1
 obtain ⟨ea, ec, rfl, -, -⟩ := owns_slice hol.2
 rcases hsl with ⟨h1, rfl, rfl⟩ | ⟨h1, h2, rfl, rfl⟩ | ⟨h1, h2, rfl, rfl⟩
 ·exact .inl ⟨la, lc, ea, ec, 1, .inl rfl, rfl, .inl ⟨h1, rfl, rfl, rfl⟩⟩
 ·exact .inl ⟨la, lc, ea, ec, 5, .inr rfl, rfl, .inr (.inl ⟨h1, h2, rfl, rfl, rfl⟩)⟩
 ·exact .inr ⟨h1, h2, la, lc, ea, ec, rfl, hol⟩

set_option maxRecDepth 100000 in
set_option maxHeartbeats 4000000 in
theorem implSuspensionAutomaton_any (lo : Nat) (t : Lts) (lv ev v : Value) (ins : List ByteArray) (w : World) (hsh : Short20 t.labels) (hsi : Short20 ins) (hl : SliceK 1 encS lo w lv t.labels) (he : SliceK 3 encE lo w ev t.edges) (hi : SliceK 1 encS lo w v ins) (g : Glob w) :
  Calls Tryz.prog 34 #[.agg #[.int .i64 t.states, .int .i64 t.initial, lv, ev], v] w (RetSa t ins w) := by
 obtain ⟨tb, htb⟩ : ∃ tb, tb = w.heap.size := ⟨_, rfl⟩
 obtain ⟨wA, hwA⟩ : ∃ wA, wA = (w.alloc (.cells #[.int .i64 t.states, .int .i64 t.initial, lv, ev] 29)).alloc (.cells #[.int .i64 0, .int .i64 0, .slice none 0 0, .slice none 0 0] 29) := ⟨_, rfl⟩
 have hbA : Below w.heap.size w wA := by rw [hwA]; exact ((Below.refl _ _).alloc (Nat.le_refl _) _).alloc (by simp) _
 have hR : Blk wA (tb + 1) [.int .i64 0, .int .i64 0, .slice none 0 0, .slice none 0 0] 29 := by
  have := Blk.new (w.alloc (.cells #[.int .i64 t.states, .int .i64 t.initial, lv, ev] 29)) [.int .i64 0, .int .i64 0, .slice none 0 0, .slice none 0 0] 29
  rw [World.size_alloc, ← htb] at this
  rw [hwA]
  exact this
 have HSH := Lib.hid hsh
 have HG := Lib.hid (g.below hbA)
 have HBA := Lib.hid hbA
 have HR := Lib.hid hR
 have HWA := Lib.hid hwA
 have HTB := Lib.hid htb
 have hsW : w.heap.size ≤ wA.heap.size := hbA.size
 have hle : w.heap.size ≤ tb + 1 := by rw [htb]; omega
 have HSL := Lib.hid (SuspensionLts_any lo t lv ev v ins wA hsh hsi (hl.below hbA) (he.below hbA) (hi.below hbA) HG.out)
 clear hsh hsi hl he hi g hwA hbA hR htb
 go_enter Tryz.func34, Tryz.ntmps34
 go_wp2_with fail
 rw [← HWA.out]
 refine Calls.mono HSL.out ?_
 rintro e w1 hret
 obtain ⟨hb1, ⟨la, lc, ea, ec, code, hcode, rfl, hsa⟩ | ⟨hif, hv, la, lc, ea, ec, rfl, hol⟩⟩ := sl_cases hret
 ·obtain ⟨W3, hW3⟩ : ∃ W3, W3 = w1.alloc (.cells #[.int .i64 0, .int .i64 0, .slice la 0 lc, .slice ea 0 ec] 29) := ⟨_, rfl⟩
  have hb4 : Below w1.heap.size w1 W3 := by rw [hW3]; exact (Below.refl _ _).alloc (Nat.le_refl _) _
  have HSAI := Lib.hid hsa
  have HB3 := Lib.hid (hb1.trans (hb4.mono hb1.size))
  have HR3 := Lib.hid (HR.out.below HB3.out)
  have HW3 := Lib.hid hW3
  have r0 := HR3.out.cell 0 rfl
  have r1 := HR3.out.cell 1 rfl
  have r2 := HR3.out.cell 2 rfl
  have r3 := HR3.out.cell 3 rfl
  have s0 := HR3.out.frozen 0
  have s1 := HR3.out.frozen 1
  have s2 := HR3.out.frozen 2
  have s3 := HR3.out.frozen 3
  rw [hW3] at r0 r1 r2 r3 s0 s1 s2 s3
  clear hret hsa hb1 hb4 hW3 HSL
  rw [← HTB.out]
  rcases hcode with rfl | rfl
  ·go_wp2
   rw [← HW3.out]
   refine bodyPost_ret (sa_results rfl ((((HR3.out.set 0 _).set 1 _).set 2 _).set 3 _)) rfl ?_
   exact sa_none (((((HBA.out.trans (HB3.out.mono hsW)).setCell hle _).setCell hle _).setCell hle _).setCell hle _) HSAI.out
  ·go_wp2
   rw [← HW3.out]
   refine bodyPost_ret (sa_results rfl ((((HR3.out.set 0 _).set 1 _).set 2 _).set 3 _)) rfl ?_
   exact sa_none (((((HBA.out.trans (HB3.out.mono hsW)).setCell hle _).setCell hle _).setCell hle _).setCell hle _) HSAI.out
 ·have HIF := Lib.hid hif
  have HV := Lib.hid hv
  clear hret
  obtain ⟨LN, hLN⟩ : ∃ LN, LN = (susT t ins).labels.length := ⟨_, rfl⟩
  obtain ⟨EN, hEN⟩ : ∃ EN, EN = (susT t ins).edges.length := ⟨_, rfl⟩
  have HDL : Hid (∀ w', Below w1.heap.size w1 w' → Calls Tryz.prog 79 #[.agg #[.int .i64 t.states, .int .i64 t.initial, .slice la (susT t ins).labels.length lc, .slice ea (susT t ins).edges.length ec]] w' (RetDet (susT t ins) w')) := fun w' hb =>
   implDeterminizeLts_any wA.heap.size (susT t ins) (.slice la (susT t ins).labels.length lc) (.slice ea (susT t ins).edges.length ec) w' (susL_short HSH.out) ((SliceK.of_owns (enc := encS) (e := 9) encS_len rfl (by rw [flat_encS]; exact hol.1)).below hb) ((SliceK.of_owns (enc := encE) (e := 73) encE_len rfl hol.2).below hb) ((HG.out.below hb1).below hb)
  have hst : (susT t ins).states = t.states := rfl
  have hin : (susT t ins).initial = t.initial := rfl
  rw [← hLN, ← hEN] at HDL
  rw [← hLN, ← hEN, hst, hin]
  obtain ⟨W3, hW3⟩ : ∃ W3, W3 = w1.alloc (.cells #[.int .i64 t.states, .int .i64 t.initial, .slice la LN lc, .slice ea EN ec] 29) := ⟨_, rfl⟩
  have hb4 : Below w1.heap.size w1 W3 := by rw [hW3]; exact (Below.refl _ _).alloc (Nat.le_refl _) _
  have hX : Blk W3 w1.heap.size [.int .i64 t.states, .int .i64 t.initial, .slice la LN lc, .slice ea EN ec] 29 := by rw [hW3]; exact Blk.new _ _ _
  have HD := Lib.hid (HDL.out W3 hb4)
  have HB4 := Lib.hid (hb1.trans (hb4.mono hb1.size))
  have HW3 := Lib.hid hW3
  have x0 := hX.cell 0 rfl
  have x1 := hX.cell 1 rfl
  have x2 := hX.cell 2 rfl
  have x3 := hX.cell 3 rfl
  rw [hW3] at x0 x1 x2 x3
  clear hb1 hif hv hol hst hin hLN hEN hb4 hX hW3 HDL HSL
  go_wp2_with fail
  rw [← HW3.out]
  refine Calls.mono HD.out ?_
  rintro e w3 ⟨hb3, d, xss, code, lv3, ev3, v3, vs, rfl, hdi, hol, hiv⟩
  obtain ⟨la3, lc3, rfl, -, -⟩ := owns_slice hol.1
  obtain ⟨ea3, ec3, rfl, -, -⟩ := owns_slice hol.2
  obtain ⟨sa3, sc3, rfl, -, -⟩ := owns_slice hiv.2.1
  have HDI := Lib.hid hdi
  have HB3 := Lib.hid (HB4.out.trans (hb3.mono HB4.out.size))
  have hsB : w.heap.size ≤ W3.heap.size := Nat.le_trans hsW HB4.out.size
  have HLO := Lib.hid (own_lower hol.1 hsB)
  have HEO := Lib.hid (own_lower hol.2 hsB)
  have HIV := Lib.hid (hiv.lower hsB)
  have HR3 := Lib.hid (HR.out.below HB3.out)
  have r0 := HR3.out.cell 0 rfl
  have r1 := HR3.out.cell 1 rfl
  have r2 := HR3.out.cell 2 rfl
  have r3 := HR3.out.cell 3 rfl
  have s0 := HR3.out.frozen 0
  have s1 := HR3.out.frozen 1
  have s2 := HR3.out.frozen 2
  have s3 := HR3.out.frozen 3
  obtain ⟨f0, hf0⟩ : ∃ f0, f0 = d.states := ⟨_, rfl⟩
  obtain ⟨f1, hf1⟩ : ∃ f1, f1 = d.initial := ⟨_, rfl⟩
  obtain ⟨LM, hLM⟩ : ∃ LM, LM = d.labels.length := ⟨_, rfl⟩
  obtain ⟨EM, hEM⟩ : ∃ EM, EM = d.edges.length := ⟨_, rfl⟩
  obtain ⟨XM, hXM⟩ : ∃ XM, XM = vs.length := ⟨_, rfl⟩
  rw [← hLM] at HLO
  rw [← hEM] at HEO
  rw [← hXM] at HIV
  rw [← hLM, ← hEM, ← hXM, ← hf0, ← hf1]
  have HLM := Lib.hid hLM
  have HEM := Lib.hid hEM
  have HF0 := Lib.hid hf0
  have HF1 := Lib.hid hf1
  clear hb3 hdi hol hiv x0 x1 x2 x3 hf0 hf1 hLM hEM hXM HD
  rw [← HTB.out]
  go_wp2
  refine bodyPost_ret (sa_results rfl ((((HR3.out.set 0 _).set 1 _).set 2 _).set 3 _)) rfl ?_
  refine ⟨((((HBA.out.trans (HB3.out.mono hsW)).setCell hle _).setCell hle _).setCell hle _).setCell hle _, d, xss, code, .slice la3 LM lc3, .slice ea3 EM ec3, _, vs, by rw [← HF0.out, ← HF1.out]; rfl, .inr (.inr ⟨HIF.out, HV.out, HDI.out⟩), ⟨?_, ?_⟩, ?_⟩
  ·rw [← HLM.out]; exact own4 HR3.out HLO.out (by decide)
  ·rw [← HEM.out]; exact own4 HR3.out HEO.out (by decide)
  ·exact (((HIV.out.set1 HR3.out (by decide) (by decide) 0 _).set1 (HR3.out.set 0 _) (by decide) (by decide) 1 _).set1 ((HR3.out.set 0 _).set 1 _) (by decide) (by decide) 2 _).set1 (((HR3.out.set 0 _).set 1 _).set 2 _) (by decide) (by decide) 3 _

end Go.Proofs.YtaabkeejbhdenaaGreatDoor
