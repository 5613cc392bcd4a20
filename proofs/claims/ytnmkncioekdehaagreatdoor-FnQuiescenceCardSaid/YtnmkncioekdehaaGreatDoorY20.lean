/-
  The implementation's suspension.
  The implementation's SuspensionLts.
  What the reference says of a number in a list, and of two equal lists.
-/
import Derived.Test.YtnmkncioekdehaaGreatDoorY16
import Derived.Test.YtnmkncioekdehaaGreatDoorY19
import Derived.Test.YtnmkncioekdehaaGreatDoorY9
import Derived.Test.YtnmkncioekdehaaGreatDoorY15
import Derived.Test.YtnmkncioekdehaaGreatDoorY3
namespace Go.Proofs.YtnmkncioekdehaaGreatDoor
open Go Go.RowKit


theorem sus_results {w : World} {b : Nat} {v0 v1 v2 v3 : Value} {tmps : Array Value} (hc : tmps.getD 4 undef = .pointer (some ⟨b, 0, none⟩)) (hb : Blk w b [v0, v1, v2, v3] 27) :
  (results Tryz.f20 tmps).run Tryz.prog w = .ok (.agg #[v0, v1, v2, v3]) w := by
 have h0 := hb.cell 0 rfl
 have h1 := hb.cell 1 rfl
 have h2 := hb.cell 2 rfl
 have h3 := hb.cell 3 rfl
 simp only [Array.getD_eq_getD_getElem?] at hc
 simp [results, Tryz.results20, go_sem, hc, h0, h1, h2, h3, Result.andThen]

theorem info_arcU : (Tryz.prog.info? 77).map (fun i => (i.zero, i.size, i.bytes)) = some (some (.agg #[.int .i64 0, .string ⟨#[]⟩, .int .i64 0]), 3, 32) := by kernel_rfl
theorem info_strU : (Tryz.prog.info? 9).map (fun i => (i.zero, i.size, i.bytes)) = some (some (.string ⟨#[]⟩), 1, 16) := by kernel_rfl

set_option maxRecDepth 100000 in
set_option maxHeartbeats 4000000 in
theorem suspension_any (lo : Nat) (t : Lts) (lv ev v : Value) (ins : List ByteArray) (w : World) (h : IfOk t ins) (hl : SliceK 1 encS lo w lv t.labels) (he : SliceK 3 encE lo w ev t.edges) (hi : SliceK 1 encS lo w v ins) (hsh : Short20 t.labels) (g : Glob w) :
  Calls Tryz.prog 20 #[.agg #[.int .i64 t.states, .int .i64 t.initial, lv, ev], v] w (RetLts t.states t.initial (susL t) (susT t ins).edges w) := by
 obtain ⟨i1, hi1, hz10, hz11, hz12⟩ := info_parts info_strU
 obtain ⟨i0, hi0, hz0, hz1, hz2⟩ := info_parts info_arcU
 obtain ⟨tb, htb⟩ : ∃ tb, tb = w.heap.size := ⟨_, rfl⟩
 obtain ⟨wA, hwA⟩ : ∃ wA, wA = (w.alloc (.cells #[.int .i64 t.states, .int .i64 t.initial, lv, ev] 27)).alloc (.cells #[.int .i64 0, .int .i64 0, .slice none 0 0, .slice none 0 0] 27) := ⟨_, rfl⟩
 have hbA : Below w.heap.size w wA := by rw [hwA]; exact ((Below.refl _ _).alloc (Nat.le_refl _) _).alloc (by simp) _
 have hsA : wA.heap.size = tb + 1 + 1 := by rw [hwA, htb]; simp
 have hT : Blk wA tb [.int .i64 t.states, .int .i64 t.initial, lv, ev] 27 := by rw [hwA, htb]; exact (Blk.new w _ _).alloc _
 have hR : Blk wA (tb + 1) [.int .i64 0, .int .i64 0, .slice none 0 0, .slice none 0 0] 27 := by
  have := Blk.new (w.alloc (.cells #[.int .i64 t.states, .int .i64 t.initial, lv, ev] 27)) [.int .i64 0, .int .i64 0, .slice none 0 0, .slice none 0 0] 27
  rw [World.size_alloc, ← htb] at this
  rw [hwA]
  exact this
 have hv := h.valid
 have HAR := Lib.hid (arcs_any lo t lv ev wA hv.edge (by have := hv.most; omega) (hl.below hbA) (he.below hbA))
 have HIF := Lib.hid h
 have HL := Lib.hid (hl.below hbA)
 have HE := Lib.hid (he.below hbA)
 have HI := Lib.hid (hi.below hbA)
 have HG := Lib.hid (g.below hbA)
 have HSH := Lib.hid hsh
 have HBA := Lib.hid hbA
 have HT := Lib.hid hT
 have HR := Lib.hid hR
 have HWA := Lib.hid hwA
 have HTB := Lib.hid htb
 have HSA := Lib.hid hsA
 obtain ⟨WB, hWB⟩ : ∃ WB, WB = wA.heap.size := ⟨_, rfl⟩
 have HWB := Lib.hid hWB
 clear h hl he hi hsh g hbA hsA hT hR hv hwA htb hWB
 go_enter Tryz.func20, Tryz.ntmps20
 go_wp2_with fail
 rw [← HWA.out]
 refine Calls.mono HAR.out ?_
 rintro e w1 ⟨av, rfl, hb1, ho1⟩
 have HB1 := Lib.hid hb1
 have HO1 := Lib.hid ho1
 have HT1 := Lib.hid (HT.out.below hb1)
 have t0 := HT1.out.cell 0 rfl
 have t1 := HT1.out.cell 1 rfl
 have t2 := HT1.out.cell 2 rfl
 have t3 := HT1.out.cell 3 rfl
 have HQ := Lib.hid (quiescent_any lo t lv ev v ins w1 HIF.out (HL.out.below hb1) (HE.out.below hb1) (HI.out.below hb1) HSH.out (HG.out.below hb1))
 obtain ⟨aa, ac, rfl, -, -⟩ := owns_slice ho1
 rw [← HTB.out]
 clear hb1 ho1 HAR
 go_wp2_with fail
 refine Calls.mono HQ.out ?_
 rintro e w2 ⟨nv, rfl, hb2, ho2⟩
 obtain ⟨qa, qc, rfl, -, -⟩ := owns_slice ho2
 have HO2 := Lib.hid (own_lower ho2 HB1.out.size)
 have HO3 := Lib.hid (owns_below HO1.out hb2)
 have HB2 := Lib.hid (HB1.out.trans (hb2.mono HB1.out.size))
 obtain ⟨Q, hQ⟩ : ∃ Q, Q = quiets t ins := ⟨_, rfl⟩
 obtain ⟨N, hN⟩ : ∃ N, N = (quiets t ins).length := ⟨_, rfl⟩
 obtain ⟨XS, hXS⟩ : ∃ XS, XS = (t.edges.map (arcOf t)).flatMap encC := ⟨_, rfl⟩
 obtain ⟨A0, hA0⟩ : ∃ A0, A0 = t.edges.length := ⟨_, rfl⟩
 rw [← hXS, List.length_map, ← hA0] at HO3
 rw [← hA0]
 rw [← hN] at HO2 ⊢
 rw [← hQ] at HO2
 have hA300 : A0 ≤ 300 := by rw [hA0]; exact HIF.out.valid.most
 have hN40 : N ≤ 40 := by have := quiets_len t ins; have := HIF.out.valid.st1; omega
 have HNQ : Hid (N = Q.length) := by unfold Hid; rw [hN, hQ]
 have HQQ := Lib.hid hQ
 have HXS := Lib.hid hXS
 have HA0 := Lib.hid hA0
 rw [← HWB.out] at HO2 HO3 HB2
 have hW2 : WB ≤ w2.heap.size := by rw [HWB.out]; exact HB2.out.size
 clear hb2 ho2 HQ hQ hN hXS hA0 t0 t1 t2 t3 HO1 HT1
 go_wp2
 go_loopw [5, 14] (fun v5 v14 wr => ∃ k : Nat, k ≤ N ∧ v14 = .int .i64 k ∧ Below WB wA wr ∧ wr.ownsRow WB 2 1 (.slice qa N qc) N (Q.map (Value.int .i64)) ∧ wr.ownsRow WB 77 3 v5 (A0 + k) (XS ++ ((Q.take k).map fun k => (⟨k, deltaT, k⟩ : Arc)).flatMap encC)) (fun _ v14 _ => N - (intOf v14).toNat)
 case atStart => exact ⟨0, Nat.zero_le _, rfl, HB2.out, HO2.out, by simpa using HO3.out⟩
 case round =>
  obtain ⟨k, hk, rfl, hbl, hoq, hoa⟩ := hrel
  have HBL := Lib.hid hbl
  have HOQ := Lib.hid hoq
  have HOA := Lib.hid hoa
  have hszr : WB ≤ wr.heap.size := by rw [HWB.out]; exact hbl.size
  obtain ⟨va, vc, rfl, -, -⟩ := owns_slice hoa
  by_cases hlt : k < N
  ·have hkq : k < Q.length := by rw [← HNQ.out]; exact hlt
   obtain ⟨b, o, rfl, hcq⟩ : ∃ b o, qa = some ⟨b, o, none⟩ ∧ wr.cell? ⟨b, o + k, none⟩ = some (.int .i64 Q[k]) := by
    have hS : SliceK 1 encI WB wr (.slice qa N qc) Q := SliceK.of_owns (e := 2) encI_len HNQ.out (by rw [flat_encI]; exact hoq)
    obtain ⟨a2, c2, h2, -, -, hrow⟩ := hS
    simp only [Value.slice.injEq] at h2
    obtain ⟨rfl, -, rfl⟩ := h2
    obtain ⟨b, o, e1, -, -, c⟩ := hrow.one hkq
    simp only [encI, List.getElem?_cons_zero] at c
    exact ⟨b, o, e1, c⟩
   obtain ⟨q, hq⟩ : ∃ q, q = Q[k] := ⟨_, rfl⟩
   rw [← hq] at hcq
   obtain ⟨ZS, hZS⟩ : ∃ ZS, ZS = XS ++ ((Q.take k).map fun k => (⟨k, deltaT, k⟩ : Arc)).flatMap encC := ⟨_, rfl⟩
   rw [← hZS] at HOA
   have HNX : Hid (XS ++ ((Q.take (k + 1)).map fun k => (⟨k, deltaT, k⟩ : Arc)).flatMap encC = ZS ++ [.int .i64 q, .string ⟨#[100, 101, 108, 116, 97]⟩, .int .i64 q]) := by
    unfold Hid
    rw [List.take_succ_eq_append_getElem hkq, List.map_append, List.flatMap_append, ← hq, ← List.append_assoc, hZS]
    rfl
   have HLE : Hid (A0 + (k + 1) = A0 + k + 1) := by unfold Hid; omega
   clear hbl hoq hoa hq hZS
   go_wp2_with (at_builtin; refine wpList_append_own _ rfl _ _ 74 rfl WB 77 i0 _ 3 32 Tryz.underlying74 hi0 hz0 hz1 hz2 rfl (by decide) _ (A0 + k) _ rfl (HOA.out.alloc _) ⟨wr.heap.size, 0, none⟩ 1 1 [.int .i64 q, .string ⟨#[100, 101, 108, 116, 97]⟩, .int .i64 q] rfl rfl ?c1 ?c2 ?c3 ?c4 ?c5 ?_)
   case c1 => exact World.news_of_block (cs := #[.int .i64 q, .string ⟨#[100, 101, 108, 116, 97]⟩, .int .i64 q]) (t := 77) (fr := (0, 0)) (heap_alloc_new _ _)
   case c2 => intro u hu; simp at hu; rcases hu with rfl | rfl | rfl <;> rfl
   case c3 => simp [maxLen]; omega
   case c4 => omega
   case c5 => first | omega | (simp; omega)
   intro v7 w7 ho7 hg7 _
   have HB7 : Hid (Below WB wA w7) := (HBL.out.alloc hszr _).grown hg7 (by simp; omega) (fun b e => (HOA.out.lt b e).1)
   have HQ7 : Hid (w7.ownsRow WB 2 1 (.slice (some ⟨b, o, none⟩) N qc) N (Q.map (Value.int .i64))) := (HOQ.out.alloc (.cells #[.int .i64 q, .string ⟨#[100, 101, 108, 116, 97]⟩, .int .i64 q] 77)).kept hg7 (own_types (HOQ.out.alloc (.cells #[.int .i64 q, .string ⟨#[100, 101, 108, 116, 97]⟩, .int .i64 q] 77)) (HOA.out.alloc (.cells #[.int .i64 q, .string ⟨#[100, 101, 108, 116, 97]⟩, .int .i64 q] 77)) (by decide))
   have HO7 : Hid (w7.ownsRow WB 77 3 v7 (A0 + (k + 1)) (XS ++ ((Q.take (k + 1)).map fun k => (⟨k, deltaT, k⟩ : Arc)).flatMap encC)) := by unfold Hid; rw [HNX.out, HLE.out]; exact ho7
   clear ho7 hg7
   go_wp2
   go_roundw
   case rel => exact ⟨k + 1, by omega, by go_num, HB7.out, HQ7.out, HO7.out⟩
   case measure => simp [intOf]; omega
  ·obtain rfl : k = N := by omega
   obtain ⟨WE, hWE⟩ : ∃ WE, WE = wr := ⟨_, rfl⟩
   obtain ⟨CN, hCN⟩ : ∃ CN, CN = A0 + k := ⟨_, rfl⟩
   have hCS : CN = (susArcs t ins).length := by
    unfold susArcs
    rw [List.length_append, List.length_map, List.length_map, ← HQQ.out, ← HNQ.out, hCN, HA0.out]
   have hCX : XS ++ ((Q.take k).map fun k => (⟨k, deltaT, k⟩ : Arc)).flatMap encC = (susArcs t ins).flatMap encC := by
    unfold susArcs
    rw [List.flatMap_append, HXS.out, HNQ.out, List.take_length, HQQ.out]
   rw [hCX, ← hCN] at HOA
   rw [← hCN]
   have hC340 : CN ≤ 340 := by omega
   have HCS := Lib.hid hCS
   obtain ⟨TL, hTL⟩ : ∃ TL, TL = t.labels.length := ⟨_, rfl⟩
   have hTL12 : TL ≤ 12 := by rw [hTL]; exact HIF.out.valid.labels.most
   have HTL := Lib.hid hTL
   rw [← hWE] at HBL HOA hszr ⊢
   obtain ⟨GE, hGE⟩ : ∃ GE, GE = WE.heap.size := ⟨_, rfl⟩
   have HGE := Lib.hid hGE
   have hGW : WB ≤ GE := by rw [hGE]; exact hszr
   have HTE : Hid (Blk WE tb [.int .i64 t.states, .int .i64 t.initial, lv, ev] 27) := HT.out.below (HWB.out ▸ HBL.out)
   have HRE : Hid (Blk WE (tb + 1) [.int .i64 0, .int .i64 0, .slice none 0 0, .slice none 0 0] 27) := HR.out.below (HWB.out ▸ HBL.out)
   have HLE : Hid (SliceK 1 encS lo WE lv t.labels) := HL.out.below (HWB.out ▸ HBL.out)
   have HSW : Hid (∀ w', Below WE.heap.size WE w' → w'.cell? ⟨tb, 0, none⟩ = some (.int .i64 t.states) ∧ w'.cell? ⟨tb, 1, none⟩ = some (.int .i64 t.initial) ∧ w'.cell? ⟨tb, 2, none⟩ = some lv) := fun w' hb =>
    ⟨(HTE.out.below hb).cell 0 rfl, (HTE.out.below hb).cell 1 rfl, (HTE.out.below hb).cell 2 rfl⟩
   have HRW : Hid (∀ w', Below WE.heap.size WE w' → Blk w' (tb + 1) [.int .i64 0, .int .i64 0, .slice none 0 0, .slice none 0 0] 27) := fun w' hb => HRE.out.below hb
   have hD : Below WE.heap.size WE WE.drew := (Below.refl _ _).drew
   have hDA : ∀ o, Below WE.heap.size WE (WE.drew.alloc o) := fun o => hD.alloc (by simp) _
   have HD := Lib.hid hD
   have HDA := Lib.hid hDA
   have HCL : Hid (∀ w', Below WE.heap.size WE w' → Calls Tryz.prog 47 #[lv] w' fun e w'' => ∃ v', e = .returned v' ∧ w''.ownsRow GE 9 1 v' TL (t.labels.map Value.string) ∧ Below w'.heap.size w' w'') := fun w' hb => by
    refine (CloneS_own lo lv t.labels w' (HLE.out.below hb) (by have := HTL.out; omega)).mono ?_
    rintro e w'' ⟨v', rfl, ho, hb2⟩
    refine ⟨v', rfl, ?_, hb2⟩
    rw [HTL.out, HGE.out]
    exact own_lower ho hb.size
   have HLT : Hid (∀ w' sv, Below WE.heap.size WE w' → w'.ownsRow GE 9 1 sv (TL + 1) (t.labels.map Value.string ++ [.string ⟨#[100, 101, 108, 116, 97]⟩]) → Calls Tryz.prog 46 #[.int .i64 t.states, .int .i64 t.initial, sv, .slice va CN vc] w' (RetLts t.states t.initial (susL t) (susT t ins).edges w')) := fun w' sv hb ho => by
    refine lts_anyG WB t.states t.initial (t.labels ++ [deltaT]) (susArcs t ins) sv (.slice va CN vc) w' (SrcS.of_own (e := 9) (base := GE) ?_) (SliceK.of_owns (enc := encC) (e := 77) encC_len HCS.out (owns_below HOA.out hb)) ?_ ?_ (susL t) rfl (arcs_in HIF.out.valid ins) (sortEs_rise (sus_nodup HIF.out))
    ·rw [List.length_append, ← HTL.out, List.map_append]; exact ho
    ·rw [List.length_append, ← HTL.out]; simp; omega
    ·rw [← HCS.out]; omega
   have tq0 := (HSW.out WE (Below.refl _ _)).1
   have tq1 := (HSW.out WE (Below.refl _ _)).2.1
   have tq2 := (HSW.out WE (Below.refl _ _)).2.2
   have htl := HTE.out.lt
   have hrl := HRE.out.lt
   obtain ⟨la, lc, hlv, -⟩ := id HLE.out
   rw [hlv, ← HTL.out] at HSW HCL tq2
   clear hbl hoq hoa hWE hCN hCS hCX hTL hGE hD hDA hlv
   go_wp2
   go_region_held3 (fun w' => w'.cell? ⟨tb, 0, none⟩ = some (.int .i64 t.states) ∧ w'.cell? ⟨tb, 1, none⟩ = some (.int .i64 t.initial) ∧ w'.cell? ⟨tb, 2, none⟩ = some (.slice la TL lc))
    (first
     | exact HSW.out _ (Below.refl _ _)
     | exact HSW.out _ HD.out
     | exact HSW.out _ (HDA.out _)
     | exact HSW.out _ hq9
     | exact HSW.out _ (hq9.alloc hs9 _)
     | exact HSW.out _ hq5
     | exact HSW.out _ (hq5.alloc hs5 _)
     | exact HSW.out _ hqL
     | go_keep)
    (first
     | (go_at_call 47; refine Calls.mono (HCL.out _ (by first | exact HD.out | exact HDA.out _)) ?_; rintro e w9 ⟨cv, rfl, hoC, hbC⟩; have hq9 : Below WE.heap.size WE w9 := (by first | exact HD.out.trans (hbC.mono (by simp)) | exact (HDA.out _).trans (hbC.mono (by simp))); have hs9 := hq9.size; have HOC := Lib.hid hoC)
     | (refine step_append_lies _ (by rfl) _ _ 24 (by rfl) GE 9 i1 _ 1 16 Tryz.underlying24 hi1 hz10 hz11 hz12 rfl (by omega) cv TL (t.labels.map Value.string) (by rfl) (HOC.out.alloc _) ⟨w9.heap.size, 0, none⟩ 1 1 [.string ⟨#[100, 101, 108, 116, 97]⟩] (by rfl) (by rfl) (World.news_of_block (cs := #[.string ⟨#[100, 101, 108, 116, 97]⟩]) (t := 9) (fr := (0, 0)) (heap_alloc_new _ _)) (by simp [Value.oneCell']) (by omega) (by simp [maxLen]; omega) (by omega) (by have := HGE.out; simp; omega) (w9.heap.size + 1) (by simp) ?_; intro gg1 cap1 w5 hown5 hgrow5 hat5 hlt5; have hq5 : Below WE.heap.size WE w5 := ((hq9.alloc hs9 _).grown hgrow5 (by simp; omega) (fun b e => by have := (HOC.out.lt b e).1; have := HGE.out; omega)); have hs5 := hq5.size; have HO5 := Lib.hid hown5)
     | (refine step_append_lies _ (by rfl) _ _ 24 (by rfl) GE 9 i1 _ 1 16 Tryz.underlying24 hi1 hz10 hz11 hz12 rfl (by omega) cv TL (t.labels.map Value.string) (by rfl) HOC.out ⟨WE.heap.size, 0, none⟩ 1 1 [.string ⟨#[100, 101, 108, 116, 97]⟩] (by rfl) (by rfl) (World.news_of_block (cs := #[.string ⟨#[100, 101, 108, 116, 97]⟩]) (t := 9) (fr := (0, 0)) ((hbC.block WE.heap.size (by simp)).trans (heap_alloc_new WE.drew _))) (by simp [Value.oneCell']) (by omega) (by simp [maxLen]; omega) (by omega) (by have := HGE.out; omega) w9.heap.size (by rfl) ?_; intro gg1 cap1 w5 hown5 hgrow5 hat5 hlt5; have hq5 : Below WE.heap.size WE w5 := (hq9.grown hgrow5 hs9 (fun b e => by have := (HOC.out.lt b e).1; have := HGE.out; omega)); have hs5 := hq5.size; have HO5 := Lib.hid hown5)
     | (go_at_call 46; refine Calls.mono (HLT.out _ _ hq5 HO5.out) ?_; rintro e wL ⟨lv2, ev2, he2, hbL, hlL, heL⟩; obtain ⟨la2, lc2, rfl, -, -⟩ := owns_slice hlL; obtain ⟨ea2, ec2, rfl, -, -⟩ := owns_slice heL; subst he2; have hqL : Below WE.heap.size WE wL := hq5.trans (hbL.mono hs5); have HRL := Lib.hid (HRW.out _ hqL); have r0 := HRL.out.cell 0 rfl; have r1 := HRL.out.cell 1 rfl; have r2 := HRL.out.cell 2 rfl; have r3 := HRL.out.cell 3 rfl; have s0 := HRL.out.frozen 0; have s1 := HRL.out.frozen 1; have s2 := HRL.out.frozen 2; have s3 := HRL.out.frozen 3; have HLL := Lib.hid hlL; have HEL := Lib.hid heL))
   all_goals (
    have hle : w.heap.size ≤ tb + 1 := by rw [HTB.out]; omega
    have hWA : w.heap.size ≤ WB := by rw [HWB.out]; exact HBA.out.size
    have hle3 : w.heap.size ≤ w5.heap.size := Nat.le_trans hWA (Nat.le_trans hszr hs5)
    have HALL : Hid (Below w.heap.size w wL) := HBA.out.trans ((HBL.out.trans (hqL.mono hszr)).mono hWA)
    have HLL2 := Lib.hid (own_lower HLL.out hle3)
    have HEL2 := Lib.hid (own_lower HEL.out hle3)
    clear hle3 HLL HEL hown5 hgrow5 hat5 hlt5 hqL hq5 hq9 hbL hlL heL hbC hoC
    go_wp2
    refine bodyPost_ret (sus_results rfl ((((HRL.out.set 0 _).set 1 _).set 2 _).set 3 _)) rfl ?_
    exact ⟨_, _, rfl, (((HALL.out.setCell hle _).setCell hle _).setCell hle _).setCell hle _, own4 HRL.out HLL2.out (by decide), own4 HRL.out HEL2.out (by decide)⟩)

end Go.Proofs.YtnmkncioekdehaaGreatDoor

namespace Go.Proofs.YtnmkncioekdehaaGreatDoor
open Go Go.RowKit


theorem sl_results {w : World} {b : Nat} {v0 v1 v2 v3 : Value} {tmps : Array Value} (hc : tmps.getD 4 undef = .pointer (some ⟨b, 0, none⟩)) (hb : Blk w b [v0, v1, v2, v3] 27) :
  (results Tryz.f7 tmps).run Tryz.prog w = .ok (.tuple #[.agg #[v0, v1, v2, v3], tmps.getD 5 undef]) w := by
 have h0 := hb.cell 0 rfl
 have h1 := hb.cell 1 rfl
 have h2 := hb.cell 2 rfl
 have h3 := hb.cell 3 rfl
 simp only [Array.getD_eq_getD_getElem?] at hc
 simp [results, Tryz.results7, go_sem, hc, h0, h1, h2, h3, Result.andThen]

set_option maxRecDepth 100000 in
set_option maxHeartbeats 4000000 in
theorem SuspensionLts_any (lo : Nat) (t : Lts) (lv ev v : Value) (ins : List ByteArray) (w : World) (hsh : Short20 t.labels) (hsi : Short20 ins) (hl : SliceK 1 encS lo w lv t.labels) (he : SliceK 3 encE lo w ev t.edges) (hi : SliceK 1 encS lo w v ins) (g : Glob w) :
  Calls Tryz.prog 7 #[.agg #[.int .i64 t.states, .int .i64 t.initial, lv, ev], v] w (RetSl t ins w) := by
 obtain ⟨tb, htb⟩ : ∃ tb, tb = w.heap.size := ⟨_, rfl⟩
 obtain ⟨wA, hwA⟩ : ∃ wA, wA = (w.alloc (.cells #[.int .i64 t.states, .int .i64 t.initial, lv, ev] 27)).alloc (.cells #[.int .i64 0, .int .i64 0, .slice none 0 0, .slice none 0 0] 27) := ⟨_, rfl⟩
 have hbA : Below w.heap.size w wA := by rw [hwA]; exact ((Below.refl _ _).alloc (Nat.le_refl _) _).alloc (by simp) _
 have hT : Blk wA tb [.int .i64 t.states, .int .i64 t.initial, lv, ev] 27 := by rw [hwA, htb]; exact (Blk.new w _ _).alloc _
 have hR : Blk wA (tb + 1) [.int .i64 0, .int .i64 0, .slice none 0 0, .slice none 0 0] 27 := by
  have := Blk.new (w.alloc (.cells #[.int .i64 t.states, .int .i64 t.initial, lv, ev] 27)) [.int .i64 0, .int .i64 0, .slice none 0 0, .slice none 0 0] 27
  rw [World.size_alloc, ← htb] at this
  rw [hwA]
  exact this
 have HSH := Lib.hid hsh
 have HSI := Lib.hid hsi
 have HL := Lib.hid (hl.below hbA)
 have HE := Lib.hid (he.below hbA)
 have HI := Lib.hid (hi.below hbA)
 have HG := Lib.hid (g.below hbA)
 have HBA := Lib.hid hbA
 have HT := Lib.hid hT
 have HR := Lib.hid hR
 have HWA := Lib.hid hwA
 have HTB := Lib.hid htb
 have hsW : w.heap.size ≤ wA.heap.size := hbA.size
 have hle : w.heap.size ≤ tb + 1 := by rw [htb]; omega
 have HVI := ValidInterface_any lo t lv ev v ins wA hsh hsi HL.out HE.out HI.out HG.out
 clear hsh hsi hl he hi g hwA hbA hT hR htb
 by_cases hif : IfOk t ins
 ·have HIF := Lib.hid hif
  have HVA := Lib.hid (Decides.yes HVI hif)
  clear hif HVI
  go_enter Tryz.func7, Tryz.ntmps7
  go_wp2_with fail
  rw [← HWA.out]
  refine Calls.mono HVA.out ?_
  rintro e w1 ⟨rfl, hb1⟩
  have HB1 := Lib.hid hb1
  have HT1 := Lib.hid (HT.out.below hb1)
  have t0 := HT1.out.cell 0 rfl
  have t1 := HT1.out.cell 1 rfl
  have t2 := HT1.out.cell 2 rfl
  have t3 := HT1.out.cell 3 rfl
  have HSU := Lib.hid (suspension_any lo t lv ev v ins w1 HIF.out (HL.out.below hb1) (HE.out.below hb1) (HI.out.below hb1) HSH.out (HG.out.below hb1))
  clear hb1 HVA
  rw [← HTB.out]
  go_wp2_with fail
  refine Calls.mono HSU.out ?_
  rintro e w2 ⟨lv2, ev2, rfl, hb2, hl2, he2⟩
  have HB2 := Lib.hid (HB1.out.trans (hb2.mono HB1.out.size))
  have HLO := Lib.hid (own_lower hl2 HB1.out.size)
  have HEO := Lib.hid (own_lower he2 HB1.out.size)
  obtain ⟨la, lc, rfl, -, -⟩ := owns_slice hl2
  obtain ⟨ea, ec, rfl, -, -⟩ := owns_slice he2
  have HCK := Lib.hid (checked_any w1.heap.size (susT t ins) (.slice la (susL t).length lc) (.slice ea (susT t ins).edges.length ec) w2 (susL_short HSH.out) (SliceK.of_owns (enc := encS) (e := 9) encS_len rfl (by rw [flat_encS]; exact hl2)) (SliceK.of_owns (enc := encE) (e := 47) encE_len rfl he2) (HG.out.below HB2.out))
  have HCK2 : Hid (Calls Tryz.prog 19 #[.agg #[.int .i64 t.states, .int .i64 t.initial, .slice la (susL t).length lc, .slice ea (susT t ins).edges.length ec]] w2 fun e w' => Below w2.heap.size w2 w' ∧ ((Valid (susT t ins) ∧ e = .returned (.tuple #[.agg #[.int .i64 t.states, .int .i64 t.initial, .slice la (susL t).length lc, .slice ea (susT t ins).edges.length ec], .int .i64 0])) ∨ (¬ Valid (susT t ins) ∧ e = .returned (.tuple #[.agg #[.int .i64 0, .int .i64 0, .slice none 0 0, .slice none 0 0], .int .i64 5])))) := HCK.out
  obtain ⟨LN, hLN⟩ : ∃ LN, LN = (susL t).length := ⟨_, rfl⟩
  obtain ⟨EN, hEN⟩ : ∃ EN, EN = (susT t ins).edges.length := ⟨_, rfl⟩
  rw [← hLN, ← hEN] at HCK2
  rw [← hLN] at HLO
  rw [← hEN] at HEO
  rw [← hLN, ← hEN]
  have HLN := Lib.hid hLN
  have HEN := Lib.hid hEN
  clear hb2 hl2 he2 HSU HCK t0 t1 t2 t3 hLN hEN
  go_wp2_with fail
  refine Calls.mono HCK2.out ?_
  rintro e w3 ⟨hb3, ⟨hv, rfl⟩ | ⟨hv, rfl⟩⟩
  ·have HV := Lib.hid hv
   have HB3 := Lib.hid (HB2.out.trans (hb3.mono HB2.out.size))
   have HR3 := Lib.hid (HR.out.below HB3.out)
   have HL3 := Lib.hid (own_lower (owns_below HLO.out hb3) hsW)
   have HE3 := Lib.hid (own_lower (owns_below HEO.out hb3) hsW)
   have r0 := HR3.out.cell 0 rfl
   have r1 := HR3.out.cell 1 rfl
   have r2 := HR3.out.cell 2 rfl
   have r3 := HR3.out.cell 3 rfl
   have s0 := HR3.out.frozen 0
   have s1 := HR3.out.frozen 1
   have s2 := HR3.out.frozen 2
   have s3 := HR3.out.frozen 3
   clear hb3 hv HCK2
   go_wp2
   refine bodyPost_ret (sl_results rfl ((((HR3.out.set 0 _).set 1 _).set 2 _).set 3 _)) rfl ?_
   refine ⟨((((HBA.out.trans (HB3.out.mono hsW)).setCell hle _).setCell hle _).setCell hle _).setCell hle _, susT t ins, 0, .slice la LN lc, .slice ea EN ec, rfl, .inr (.inr ⟨HIF.out, HV.out, rfl, rfl⟩), ?_, ?_⟩
   ·show World.ownsRow _ _ _ _ _ (susL t).length _
    rw [← HLN.out]; exact own4 HR3.out HL3.out (by decide)
   ·show World.ownsRow _ _ _ _ _ (susT t ins).edges.length _
    rw [← HEN.out]; exact own4 HR3.out HE3.out (by decide)
  ·have HV := Lib.hid hv
   have HB3 := Lib.hid (HB2.out.trans (hb3.mono HB2.out.size))
   have HR3 := Lib.hid (HR.out.below HB3.out)
   have r0 := HR3.out.cell 0 rfl
   have r1 := HR3.out.cell 1 rfl
   have r2 := HR3.out.cell 2 rfl
   have r3 := HR3.out.cell 3 rfl
   have s0 := HR3.out.frozen 0
   have s1 := HR3.out.frozen 1
   have s2 := HR3.out.frozen 2
   have s3 := HR3.out.frozen 3
   clear hb3 hv HCK2
   go_wp2
   refine bodyPost_ret (sl_results rfl ((((HR3.out.set 0 _).set 1 _).set 2 _).set 3 _)) rfl ?_
   exact sl_none (((((HBA.out.trans (HB3.out.mono hsW)).setCell hle _).setCell hle _).setCell hle _).setCell hle _) (.inr (.inl ⟨HIF.out, HV.out, rfl, rfl⟩))
 ·have HIF := Lib.hid hif
  have HVA := Lib.hid (Decides.no HVI hif)
  clear hif HVI
  go_enter Tryz.func7, Tryz.ntmps7
  go_wp2_with fail
  rw [← HWA.out]
  refine Calls.mono HVA.out ?_
  rintro e w1 ⟨rfl, hb1⟩
  have HB1 := Lib.hid hb1
  have HR1 := Lib.hid (HR.out.below hb1)
  have r0 := HR1.out.cell 0 rfl
  have r1 := HR1.out.cell 1 rfl
  have r2 := HR1.out.cell 2 rfl
  have r3 := HR1.out.cell 3 rfl
  have s0 := HR1.out.frozen 0
  have s1 := HR1.out.frozen 1
  have s2 := HR1.out.frozen 2
  have s3 := HR1.out.frozen 3
  clear hb1 HVA
  rw [← HTB.out]
  go_wp2
  refine bodyPost_ret (sl_results rfl ((((HR1.out.set 0 _).set 1 _).set 2 _).set 3 _)) rfl ?_
  exact sl_none (((((HBA.out.trans (HB1.out.mono hsW)).setCell hle _).setCell hle _).setCell hle _).setCell hle _) (.inl ⟨HIF.out, rfl, rfl⟩)

end Go.Proofs.YtnmkncioekdehaaGreatDoor

namespace Go.Proofs.YtnmkncioekdehaaGreatDoor
open Go Go.RowKit

set_option maxRecDepth 100000 in
set_option maxHeartbeats 1000000 in
theorem b10Has_any (lo : Nat) (v : Value) (xs : List Int) (n : Int) (w : World) (hv : SliceK 1 encI lo w v xs) : Calls Tryz.prog 12 #[v, .int .i64 n] w fun e w' => e = .returned (.bool (xs.contains n)) ∧ Below w.heap.size w w' := by
 obtain ⟨a, cap, rfl, hn, hcap, hrow⟩ := hv
 go_enter Tryz.func12, Tryz.ntmps12
 go_wp2
 go_loopw [5] (fun i wr => ∃ k : Nat, k ≤ xs.length ∧ i = .int .i64 k ∧ Below w.heap.size w wr ∧ ∀ j (h : j < xs.length), j < k → xs[j] ≠ n) (fun i _ => xs.length - (intOf i).toNat)
 case atStart => exact ⟨0, Nat.zero_le _, rfl, Below.refl _ _, fun _ _ h => by omega⟩
 case round =>
  obtain ⟨k, hk, rfl, hbl, hx⟩ := hrel
  have HX := Lib.hid hx
  have HBL := Lib.hid hbl
  have hsz := hbl.size
  clear hx
  by_cases hlt : k < xs.length
  ·obtain ⟨b, o, rfl, -, hb, c⟩ := (hrow.below hbl).one hlt
   simp only [encI, List.getElem?_cons_zero] at c
   clear hrow hbl
   cases g : (xs[k] == n)
   ·have HG : Hid (xs[k] ≠ n) := by unfold Hid; simpa using g
    go_wp2
    go_roundw
    case rel => exact ⟨k + 1, by omega, by go_num, HBL.out, fun j h h' => by
      by_cases e : j = k
      ·subst e; exact HG.out
      ·exact HX.out j h (by omega)⟩
    case measure => simp [intOf]; omega
   ·have HG : Hid (xs.contains n = true) := by
     unfold Hid
     rw [List.contains_iff_mem]
     exact (eq_of_beq g) ▸ List.getElem_mem hlt
    go_wp2
    go_ret
    exact ⟨ret_bool HG.out.symm, HBL.out⟩
  ·clear hrow hbl
   go_wp2
   go_ret
   refine ⟨ret_bool ?_, HBL.out⟩
   symm
   rw [Bool.eq_false_iff]
   intro h
   rw [List.contains_iff_mem] at h
   obtain ⟨j, hj, e⟩ := List.mem_iff_getElem.1 h
   exact HX.out j hj (by omega) e

set_option maxRecDepth 100000 in
set_option maxHeartbeats 1000000 in
theorem b10Nums_any (lo lo2 : Nat) (v v2 : Value) (xs ys : List Int) (w : World) (hv : SliceK 1 encI lo w v xs) (hv2 : SliceK 1 encI lo2 w v2 ys) : Calls Tryz.prog 11 #[v, v2] w fun e w' => e = .returned (.bool (xs == ys)) ∧ Below w.heap.size w w' := by
 obtain ⟨a, cap, rfl, hn, hcap, hrow⟩ := hv
 obtain ⟨a2, cap2, rfl, hn2, hcap2, hrow2⟩ := hv2
 by_cases hl : xs.length = ys.length
 ·have hl1 : ((xs.length : Int) == (ys.length : Int)) = true := by rw [beq_iff_eq]; omega
  have HL := Lib.hid hl
  rw [← hl] at hn2
  have hl2 : (ys.length : Int) = (xs.length : Int) := by omega
  clear hl
  go_enter Tryz.func11, Tryz.ntmps11
  go_wp2
  clear hl1
  go_loopw [5] (fun i wr => ∃ k : Nat, k ≤ xs.length ∧ i = .int .i64 k ∧ Below w.heap.size w wr ∧ ∀ j (h : j < xs.length) (h2 : j < ys.length), j < k → xs[j] = ys[j]) (fun i _ => xs.length - (intOf i).toNat)
  case atStart => exact ⟨0, Nat.zero_le _, rfl, Below.refl _ _, fun _ _ _ h => by omega⟩
  case round =>
   obtain ⟨k, hk, rfl, hbl, hx⟩ := hrel
   have HX := Lib.hid hx
   have HBL := Lib.hid hbl
   have hsz := hbl.size
   clear hx
   by_cases hlt : k < xs.length
   ·have hlt2 : k < ys.length := by have := HL.out; omega
    obtain ⟨b, o, rfl, -, hb, c⟩ := (hrow.below hbl).one hlt
    obtain ⟨b2, o2, rfl, -, hb2, c2⟩ := (hrow2.below hbl).one hlt2
    simp only [encI, List.getElem?_cons_zero] at c c2
    have s1 := later_cell hb c
    have s2 := later_cell hb2 c2
    clear hrow hrow2 hbl c c2
    cases g : (xs[k] == ys[k])
    ·have HG : Hid ((xs == ys) = false) := by
      unfold Hid
      rw [beq_eq_false_iff_ne] at g ⊢
      intro e
      subst e
      exact g rfl
     go_wp2
     refine wp_region_later (by kernel_rfl) (by kernel_rfl) ?_
     repeat (go_big_quiet_step ((fail)))
     refine wpQuiet_nil ?_
     intro _ hw9
     obtain ⟨nl, hw8⟩ := hw9
     subst hw8
     go_wp2
     go_ret
     exact ⟨ret_bool HG.out.symm, HBL.out.trans (nl.h.mono hsz)⟩
    ·have HG : Hid (xs[k] = ys[k]) := eq_of_beq g
     go_wp2
     refine wp_region_later (by kernel_rfl) (by kernel_rfl) ?_
     repeat (go_big_quiet_step ((fail)))
     refine wpQuiet_nil ?_
     intro _ hw9
     obtain ⟨nl, hw8⟩ := hw9
     subst hw8
     go_wp2
     go_roundw
     case rel => exact ⟨k + 1, by omega, by go_num, HBL.out.trans (nl.h.mono hsz), fun j h h2 h' => by
       by_cases e : j = k
       ·subst e; exact HG.out
       ·exact HX.out j h h2 (by omega)⟩
     case measure => simp [intOf]; omega
   ·clear hrow hrow2 hbl
    go_wp2
    go_ret
    refine ⟨ret_bool ?_, HBL.out⟩
    symm
    rw [beq_iff_eq]
    exact List.ext_getElem HL.out (fun j h1 h2 => HX.out j h1 h2 (by omega))
 ·have hl1 : ((xs.length : Int) == (ys.length : Int)) = false := by rw [beq_eq_false_iff_ne]; omega
  have HG : Hid ((xs == ys) = false) := by
   unfold Hid
   rw [beq_eq_false_iff_ne]
   exact fun e => hl (by rw [e])
  clear hl hrow hrow2
  go_enter Tryz.func11, Tryz.ntmps11
  go_wp2
  go_ret
  exact ⟨ret_bool HG.out.symm, Below.refl _ _⟩

end Go.Proofs.YtnmkncioekdehaaGreatDoor
