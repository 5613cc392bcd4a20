/-
  The program's quotient: the system of the blocks of a partition.
  What the library's Repeat computes of one truth value.
  What the library's Repeat computes of one number, -1.
-/
import Derived.Test.YtdkbbknhighebaaGreatDoorL10
import Derived.Test.YtdkbbknhighebaaGreatDoorL12
import Derived.Deep.AppendLies
import Derived.Deep.RegionHeld3
import Derived.Test.YtdkbbknhighebaaGreatDoorL3
import Derived.Test.YtdkbbknhighebaaGreatDoorL1
import Derived.Laws.CopyOwn
import Derived.Deep.RegionLaw
namespace Go.Proofs.YtdkbbknhighebaaGreatDoor
open Go Go.RowKit


theorem quo_results {w : World} {b : Nat} {v0 v1 v2 v3 : Value} {tmps : Array Value} (hc : tmps.getD 6 undef = .pointer (some ⟨b, 0, none⟩)) (hb : Blk w b [v0, v1, v2, v3] 27) :
  (results Tryz.f16 tmps).run Tryz.prog w = .ok (.agg #[v0, v1, v2, v3]) w := by
 have h0 := hb.cell 0 rfl
 have h1 := hb.cell 1 rfl
 have h2 := hb.cell 2 rfl
 have h3 := hb.cell 3 rfl
 simp only [Array.getD_eq_getD_getElem?] at hc
 simp [results, Tryz.results16, go_sem, hc, h0, h1, h2, h3, Result.andThen]

theorem rowI_inQ {lo : Nat} {w : World} {v : Value} {xs : List Int} (h : SliceK 1 encI lo w v xs) (hx : xs ≠ []) : ∃ b o c, v = .slice (some ⟨b, o, none⟩) xs.length c ∧ xs.length ≤ c ∧ b < w.heap.size ∧ ∀ j, j < xs.length → w.cell? ⟨b, o + j, none⟩ = some (.int .i64 (xs.getD j 0)) := by
 obtain ⟨a, c, rfl, hn, hc, hrow⟩ := h
 rcases hrow with h0 | ⟨b, o, rfl, -, hb, hcell⟩
 ·exact absurd (List.length_eq_zero_iff.1 h0) hx
 ·refine ⟨b, o, c, rfl, hn, hb, fun j hj => ?_⟩
  have h1 := hcell j hj 0 (by decide)
  simp only [encI, List.getElem?_cons_zero] at h1
  rw [List.getD_eq_getElem?_getD, List.getElem?_eq_getElem hj]
  simpa using h1

theorem ms1_any (x : Edge) (w : World) : Calls Tryz.prog 18 #[.agg #[.int .i64 x.src, .int .i64 x.lab, .int .i64 x.dst]] w fun e w' => e = .returned (.bool true) ∧ Below w.heap.size w w' := by
 have HB := Lib.hid (box_belowL w #[.int .i64 x.src, .int .i64 x.lab, .int .i64 x.dst] 47)
 go_enter Tryz.func18, Tryz.ntmps18
 go_wp2
 go_ret
 exact ⟨rfl, HB.out⟩

def RetQuo (t : Lts) (p : List Int) (w : World) (e : Ending) (w' : World) : Prop :=
 ∃ (n : Int) (lv ev : Value), (∃ x ∈ p, n = x + 1) ∧ (∀ x ∈ p, x < n) ∧ e = .returned (.agg #[.int .i64 (quotT t p n).states, .int .i64 (quotT t p n).initial, lv, ev]) ∧ Below w.heap.size w w' ∧ OwnLts w.heap.size w' lv ev (quotT t p n)

set_option maxRecDepth 100000 in
set_option maxHeartbeats 4000000 in
theorem quotient_any (lo lo2 S : Nat) (t : Lts) (p : List Int) (lv ev pv : Value) (w : World) (hv : Valid t) (hS : (S : Int) = t.states) (hpl : p.length = S) (hlow : ∀ x ∈ p, 0 ≤ x ∧ x ≤ 1000) (hl : SliceK 1 encS lo w lv t.labels) (he : SliceK 3 encE lo w ev t.edges) (hs : SliceK 1 encI lo2 w pv p) :
  Calls Tryz.prog 16 #[.agg #[.int .i64 t.states, .int .i64 t.initial, lv, ev], pv, .func (.func 18) #[] #[]] w (RetQuo t p w) := by
 have hst0 := hv.st0
 have hst1 := hv.st1
 have hin0 := hv.in0
 have hin1 := hv.in1
 have hS1 : 1 ≤ S := by omega
 have hS40 : S ≤ 40 := by omega
 have HOK : Hid (∀ i (h : i < t.edges.length), EdgeOk t t.edges[i]) := hv.edge
 obtain ⟨ki, hki⟩ : ∃ ki : Nat, (ki : Int) = t.initial := ⟨t.initial.toNat, by omega⟩
 have hkiS : ki < S := by omega
 have hkiI : (ki : Int) < (S : Int) := by omega
 have hHS := Lib.hid hs
 obtain ⟨pb, po, pc, rfl, hpc, hpb, hpcell⟩ := rowI_inQ hs (by intro e; rw [e] at hpl; simp at hpl; omega)
 obtain ⟨l1, l3, rfl, -, -, -⟩ := id hl
 have hen3 : t.edges.length ≤ 300 := hv.most
 obtain ⟨ea, ec, rfl, hen, hec, herow⟩ := id he
 obtain ⟨i0, hi, hz0, hz1, hz2⟩ := info_parts info_edge2
 obtain ⟨tb, htb⟩ : ∃ tb, tb = w.heap.size := ⟨_, rfl⟩
 obtain ⟨rc, hrc⟩ : ∃ rc, rc = w.heap.size + 1 := ⟨_, rfl⟩
 obtain ⟨EN, hEN⟩ : ∃ EN, EN = t.edges.length := ⟨_, rfl⟩
 obtain ⟨LN, hLN⟩ : ∃ LN, LN = t.labels.length := ⟨_, rfl⟩
 obtain ⟨q0, hq0⟩ : ∃ q0, q0 = p.getD ki 0 := ⟨_, rfl⟩
 rw [← hEN] at hen hen3 he ⊢
 rw [hpl] at hpc hpcell hHS ⊢
 rw [← hLN] at hl ⊢
 have hpk := hpcell ki hkiS
 rw [← hq0] at hpk
 rw [← hS, ← hki]
 obtain ⟨W, hW⟩ : ∃ W, W = (w.alloc (.cells #[.int .i64 S, .int .i64 ki, .slice l1 LN l3, .slice ea EN ec] 27)).alloc (.cells #[.int .i64 0, .int .i64 0, .slice none 0 0, .slice none 0 0] 27) := ⟨_, rfl⟩
 have hb : Below w.heap.size w W := by rw [hW]; exact ((Below.refl _ _).alloc (Nat.le_refl _) _).alloc (by simp) _
 have hT : Blk W tb [.int .i64 S, .int .i64 ki, .slice l1 LN l3, .slice ea EN ec] 27 := by rw [hW, htb]; exact (Blk.new w _ _).alloc _
 have hR : Blk W rc [.int .i64 0, .int .i64 0, .slice none 0 0, .slice none 0 0] 27 := by
  have h := Blk.new (w.alloc (.cells #[.int .i64 S, .int .i64 ki, .slice l1 LN l3, .slice ea EN ec] 27)) [.int .i64 0, .int .i64 0, .slice none 0 0, .slice none 0 0] 27
  rw [World.size_alloc, ← hrc] at h
  rw [hW]
  exact h
 have hle : w.heap.size ≤ rc := by omega
 have hD : Below W.heap.size W W.drew := (Below.refl _ _).drew
 have hpbW : pb < W.heap.size := Nat.lt_of_lt_of_le hpb hb.size
 have HPC : Hid (∀ w', Below W.heap.size W w' → ∀ j, j < S → w'.cell? ⟨pb, po + j, none⟩ = some (.int .i64 (p.getD j 0))) := fun w' hb' j hj => keeps hb' hpbW (keeps hb hpb (hpcell j hj))
 have HBK : Hid (∀ (w' : World), Below W.heap.size W w' → Calls Tryz.prog 42 #[.slice (some ⟨pb, po, none⟩) S pc] w' fun e w'' => (∃ n, e = .returned (.int .i64 n) ∧ (∃ x ∈ p, n = x + 1) ∧ ∀ x ∈ p, x < n) ∧ w' = w'') := fun w' hb' => blockCount_any lo2 _ p w' ((hHS.out.below hb).below hb') (by omega) hlow
 have HCS : Hid (∀ w', Below W.heap.size W w' → Calls Tryz.prog 36 #[.slice l1 LN l3] w' fun e w'' => ∃ v', e = .returned v' ∧ w''.ownsRow w'.heap.size 9 1 v' LN (t.labels.map Value.string) ∧ Below w'.heap.size w' w'') := fun w' hb' => by
  have h := CloneS_own lo (.slice l1 LN l3) t.labels w' ((hl.below hb).below hb') (by have := hv.labels.most; omega)
  rw [← hLN] at h
  exact h
 have HSW : Hid (∀ w', Below W.heap.size W w' → w'.cell? ⟨tb, 1, none⟩ = some (.int .i64 ki) ∧ w'.cell? ⟨tb, 2, none⟩ = some (.slice l1 LN l3) ∧ w'.cell? ⟨pb, po + ki, none⟩ = some (.int .i64 q0)) := fun w' hb' =>
  ⟨(hT.below hb').cell 1 rfl, (hT.below hb').cell 2 rfl, keeps hb' hpbW (keeps hb hpb hpk)⟩
 have hD2 : Below W.heap.size W (W.alloc (.cells #[.int .i64 0, .int .i64 0, .slice none 0 0, .slice none 0 0] 27)).drew := ((Below.refl _ _).alloc (Nat.le_refl _) _).drew
 have hO2 : Blk (W.alloc (.cells #[.int .i64 0, .int .i64 0, .slice none 0 0, .slice none 0 0] 27)).drew W.heap.size [.int .i64 0, .int .i64 0, .slice none 0 0, .slice none 0 0] 27 := Blk.new W _ _
 have HO2 := Lib.hid hO2
 have HD2 := Lib.hid hD2
 have HER := Lib.hid (herow.below hb)
 have HD := Lib.hid hD
 have HB := Lib.hid hb
 have HT := Lib.hid hT
 have HR := Lib.hid hR
 have HW := Lib.hid hW
 have HTB := Lib.hid htb
 have HRC := Lib.hid hrc
 have HEN := Lib.hid hEN
 have HLN := Lib.hid hLN
 have HSS := Lib.hid hS
 have HKI := Lib.hid hki
 have HQ0 := Lib.hid hq0
 have hsW : w.heap.size ≤ W.heap.size := hb.size
 clear hv hl he hs hb hT hR hD hD2 hO2 hW htb hrc hEN hLN herow hHS hlow hpl hpcell hpk hS hki hq0 hin0 hin1 hst0 hst1
 go_enter Tryz.func16, Tryz.ntmps16
 go_upto_region 1 with fail
 rw [← HW.out]
 rw [← HRC.out, ← HTB.out]
 go_cut [7] from 10 (fun v7 wx => ∃ (n : Int) (ob : Nat) (l2 : Option Addr) (c2 : Nat), v7 = .pointer (some ⟨ob, 0, none⟩) ∧ W.heap.size ≤ ob ∧ (∃ x ∈ p, n = x + 1) ∧ (∀ x ∈ p, x < n) ∧ LtsSt W.heap.size rc ob n q0 t.labels [] (.slice l2 LN c2) (.slice none 0 0) W wx)
 case first =>
  go_region_held3 (fun w' => w'.cell? ⟨tb, 1, none⟩ = some (.int .i64 ki) ∧ w'.cell? ⟨tb, 2, none⟩ = some (.slice l1 LN l3) ∧ w'.cell? ⟨pb, po + ki, none⟩ = some (.int .i64 q0))
   (first
    | exact HSW.out _ HD.out
    | exact HSW.out _ hq1
    | exact HSW.out _ hq2
    | exact HSW.out _ (hq2.alloc hq2.size _)
    | exact HSW.out _ HD2.out
    | exact HSW.out _ (below_put4 hq2 (Nat.le_refl _))
    | go_keep)
   (first
    | (go_at_call 42; refine Calls.mono (HBK.out _ HD.out) ?_; rintro e w1 ⟨⟨n, rfl, hn1, hn2⟩, rfl⟩)
    | (go_at_call 36; refine Calls.mono (HCS.out _ HD.out) ?_; rintro e w2 ⟨v2, rfl, ho2, hb2⟩; obtain ⟨a2, c2, rfl, -, -⟩ := owns_slice ho2; have hq2 : Below W.heap.size W w2 := HD.out.trans (hb2.mono (by simp)))
    | (go_at_call 42; refine Calls.mono (HBK.out _ HD2.out) ?_; rintro e w1 ⟨⟨n, rfl, hn1, hn2⟩, rfl⟩)
    | (go_at_call 36; refine Calls.mono (HCS.out _ HD2.out) ?_; rintro e w2 ⟨v2, rfl, ho2, hb2⟩; obtain ⟨a2, c2, rfl, -, -⟩ := owns_slice ho2; have hq2 : Below W.heap.size W w2 := HD2.out.trans (hb2.mono HD2.out.size); have hr2 := HO2.out.below hb2; have r0 := hr2.cell 0 rfl; have r1 := hr2.cell 1 rfl; have r2 := hr2.cell 2 rfl; have r3 := hr2.cell 3 rfl; have s0 := hr2.frozen 0; have s1 := hr2.frozen 1; have s2 := hr2.frozen 2; have s3 := hr2.frozen 3)
    | fail)
  all_goals (
   go_wp2_with fail
   go_meet
   first
    | exact ⟨n, _, _, _, rfl, hq2.size, hn1, hn2, (HR.out.below hq2).alloc _, Blk.new w2 _ _, owns_below (by rw [← HLN.out]; exact own_lower ho2 (by simp)) ((Below.refl _ _).alloc (Nat.le_refl _) _), World.ownsRow_nil _ _ _ _, hq2.alloc hq2.size _⟩
    | exact ⟨n, _, _, _, rfl, Nat.le_refl _, hn1, hn2, blk_put4 (HR.out.below hq2) (Nat.ne_of_lt HR.out.lt), put4 hr2, own_put4 hr2 (by rw [← HLN.out]; exact own_lower ho2 (by simp)) (by decide), World.ownsRow_nil _ _ _ _, below_put4 hq2 (Nat.le_refl _)⟩)
 case rest =>
  clear HD HD2 HO2 HCS HBK HSW
  obtain ⟨n, ob, l2, c2, rfl, hob, hn1, hn2, hst⟩ := hcut
  have HN1 := Lib.hid hn1
  have HN2 := Lib.hid hn2
  have HST := Lib.hid hst
  have hrl := HR.out.lt
  have hne : rc ≠ ob := by omega
  have htl := HT.out.lt
  have t3 := (HT.out.belowB hst.below htl).cell 3 rfl
  clear hst hn1 hn2
  go_wp2_with fail
  go_loopw [24] (fun v24 wr => ∃ (k : Nat) (ev : Value), k ≤ EN ∧ v24 = .int .i64 k ∧ LtsSt W.heap.size rc ob n q0 t.labels ((t.edges.take k).map (qtE p)) (.slice l2 LN c2) ev W wr) (fun v24 _ => EN - (intOf v24).toNat)
  case atStart => exact ⟨0, _, Nat.zero_le _, rfl, HST.out⟩
  case round =>
   clear HST t3
   obtain ⟨k, ev, hk, rfl, hst⟩ := hrel
   obtain ⟨wC, rfl⟩ : ∃ wC : World, wC = wr := ⟨_, rfl⟩
   have HS := Lib.hid hst
   have hsz : W.heap.size ≤ wC.heap.size := hst.below.size
   obtain ⟨ae, ce, rfl, -, -⟩ := owns_slice hst.edges
   by_cases hlt : k < EN
   ·have hkE : k < t.edges.length := by rw [← HEN.out]; exact hlt
    obtain ⟨be, oe, rfl, -, hbe, e1, e2, e3⟩ := (HER.out.below hst.below).edge hkE
    have hek := HOK.out k hkE
    have hs0 := hek.s0
    have hs1' := hek.s1
    have hd0 := hek.d0
    have hd1 := hek.d1
    have hSS := HSS.out
    obtain ⟨ms, hms⟩ : ∃ ms : Nat, (ms : Int) = t.edges[k].src := ⟨t.edges[k].src.toNat, by omega⟩
    obtain ⟨md, hmd⟩ : ∃ md : Nat, (md : Int) = t.edges[k].dst := ⟨t.edges[k].dst.toNat, by omega⟩
    have hmsO : ms < S := by omega
    have hmdO : md < S := by omega
    have hmsI : (ms : Int) < (S : Int) := by omega
    have hmdI : (md : Int) < (S : Int) := by omega
    obtain ⟨a, ha⟩ : ∃ a, a = p.getD ms 0 := ⟨_, rfl⟩
    obtain ⟨b, hb⟩ : ∃ b, b = p.getD md 0 := ⟨_, rfl⟩
    obtain ⟨l, hl⟩ : ∃ l, l = t.edges[k].lab := ⟨_, rfl⟩
    have HTK : Hid ((t.edges.take (k + 1)).map (qtE p) = (t.edges.take k).map (qtE p) ++ [⟨a, l, b⟩]) := by
     unfold Hid
     rw [List.take_succ_eq_append_getElem hkE, List.map_append, List.map_singleton]
     congr 2
     unfold qtE
     rw [← hms, ← hmd, Int.toNat_natCast, Int.toNat_natCast, ← ha, ← hb, ← hl]
    rw [← hms] at e1
    rw [← hl] at e2
    rw [← hmd] at e3
    obtain ⟨Es, hEs⟩ : ∃ Es, Es = (t.edges.take k).map (qtE p) := ⟨_, rfl⟩
    obtain ⟨F, hF⟩ : ∃ F, F = Es.length := ⟨_, rfl⟩
    have hFl : F ≤ k := by rw [hF, hEs, List.length_map]; exact List.length_take_le _ _
    rw [← hEs] at HS hst HTK
    rw [← hF] at HS hst
    have HFE := Lib.hid hF
    obtain ⟨W2, hW2⟩ : ∃ W2, W2 = wC.alloc (.cells #[.int .i64 ms, .int .i64 l, .int .i64 md] 47) := ⟨_, rfl⟩
    obtain ⟨eb, heb⟩ : ∃ eb, eb = wC.heap.size := ⟨_, rfl⟩
    have hb2 : Below wC.heap.size wC W2 := by rw [hW2]; exact (Below.refl _ _).alloc (Nat.le_refl _) _
    have hE : Blk W2 eb [.int .i64 ms, .int .i64 l, .int .i64 md] 47 := by rw [hW2, heb]; exact Blk.new wC _ _
    have HKP := Lib.hid (ms1_any ⟨ms, l, md⟩ W2)
    have HE := Lib.hid hE
    have HB2 := Lib.hid hb2
    have HW2 := Lib.hid hW2
    have HEB := Lib.hid heb
    have HAA := Lib.hid ha
    have HBB := Lib.hid hb
    clear ha hb hl hms hmd hEs hF hW2 heb hb2 hE hst hek hs0 hs1' hd0 hd1 hSS
    go_wp2_with fail
    rw [← HW2.out]
    try rw [← HEB.out]
    refine Calls.mono HKP.out ?_
    rintro e w3 ⟨rfl, hb3⟩
    have hb3' : Below wC.heap.size wC w3 := HB2.out.trans (hb3.mono HB2.out.size)
    have hE3 := HE.out.below hb3
    have HS3 := Lib.hid (HS.out.laterP hb3' hsz)
    have HB3 := Lib.hid hb3'
    obtain ⟨WA, hWA⟩ : ∃ WA, WA = (w3.alloc (.cells #[.int .i64 a, .int .i64 l, .int .i64 b] 47)).drew := ⟨_, rfl⟩
    have hal : Below w3.heap.size w3 WA := by rw [hWA]; exact ((Below.refl _ _).alloc (Nat.le_refl _) _).drew
    have HS4 := Lib.hid (HS3.out.laterP hal (Nat.le_trans hsz hb3'.size))
    have hE4 := hE3.below hal
    have P0 : w3.drew.cell? ⟨eb, 0, none⟩ = some (.int .i64 ms) := hE3.cell 0 rfl
    have P1 : w3.drew.cell? ⟨eb, 1, none⟩ = some (.int .i64 l) := hE3.cell 1 rfl
    have P2 : w3.drew.cell? ⟨eb, 2, none⟩ = some (.int .i64 md) := hE3.cell 2 rfl
    have P3 : w3.drew.cell? ⟨pb, po + ms, none⟩ = some (.int .i64 a) := by rw [HAA.out]; exact HPC.out _ HS3.out.below ms hmsO
    have P4 : w3.drew.cell? ⟨pb, po + md, none⟩ = some (.int .i64 b) := by rw [HBB.out]; exact HPC.out _ HS3.out.below md hmdO
    have P5 : w3.drew.cell? ⟨ob, 3, none⟩ = some (.slice ae F ce) := HS3.out.out.cell 3 rfl
    have R0 := hE4.cell 0 rfl
    have R1 := hE4.cell 1 rfl
    have R2 := hE4.cell 2 rfl
    have R3 := HPC.out _ HS4.out.below ms hmsO
    have R4 := HPC.out _ HS4.out.below md hmdO
    have R5 := HS4.out.out.cell 3 rfl
    rw [← HAA.out] at R3
    rw [← HBB.out] at R4
    have HOA : Hid (WA.ownsRow W.heap.size 47 3 (.slice ae F ce) F (Es.flatMap encE)) := by
     have h := HS4.out.edges
     rw [← HFE.out] at h
     exact h
    have n0 : some eb ≠ (Value.slice ae F ce).ownBlock := fun e => by have h1 := HEB.out; have h2 := (HS.out.edges.lt _ e.symm).2; omega
    have n3 : some pb ≠ (Value.slice ae F ce).ownBlock := fun e => by have h1 := (HOA.out.lt _ e.symm).1; omega
    have n4 : eb ≠ ob := fun e => by have := HEB.out; have := HS.out.out.lt; omega
    have n5 : pb ≠ ob := by omega
    have hnew : WA.heap[w3.heap.size]? = some (.cells #[.int .i64 a, .int .i64 l, .int .i64 b] 47 (0, 0)) := by rw [hWA]; exact heap_alloc_new w3 _
    have hs3 : W.heap.size ≤ w3.heap.size := Nat.le_trans hsz hb3'.size
    have heb3 : eb < w3.heap.size := hE3.lt
    have hpb3 : pb < w3.heap.size := by omega
    have hsA : WA.heap.size = w3.heap.size + 1 := by rw [hWA]; simp
    have HAL := Lib.hid hal
    rw [hWA] at R0 R1 R2 R3 R4 R5 HOA hnew HAL hsA
    have HWA := Lib.hid hWA
    clear hb3 hb3' hE3 hE4 e1 e2 e3 HKP hWA hal
    go_wp2
    refine wp_region_noPanic ?_
    refine wp_region_held_drew (S := fun w' => w'.cell? ⟨eb, 0, none⟩ = some (.int .i64 ms) ∧ w'.cell? ⟨eb, 1, none⟩ = some (.int .i64 l) ∧ w'.cell? ⟨eb, 2, none⟩ = some (.int .i64 md) ∧ w'.cell? ⟨pb, po + ms, none⟩ = some (.int .i64 a) ∧ w'.cell? ⟨pb, po + md, none⟩ = some (.int .i64 b)) (by kernel_rfl) ?hS (fun hHeld => ?goon)
    case hS =>
     try dsimp only
     first
           | (refine ⟨?_, ?_, ?_, ?_, ?_⟩ <;> assumption)
           | go_keep
    case goon =>
     refine wpAnyH_take (i := 0) (oi := ?oi1) (v := ?v1) ?ho1 ?ka1 ?kb1 ?kc1 (fun _ _ _ h => h) (Or.inl ⟨?wn1, ?hy1⟩) (by assumption) ?rest1
     case ho1 => (simp only [List.getElem?_toArray, List.getElem?_cons_zero]; rfl)
     case ka1 => kernel_rfl
     case kb1 => kernel_rfl
     case kc1 => kernel_rfl
     case wn1 => rfl
     case hy1 => (intro w hSw; (try dsimp only at hSw); first | (go_simp; done) | (go_simp; with_reducible rfl))
     case rest1 =>
      try simp only [Act.put, List.setIfInBounds_toArray, List.set_cons_zero, List.set_cons_succ]
      refine wpAnyH_take (i := 2) (oi := ?oi2) (v := ?v2) ?ho2 ?ka2 ?kb2 ?kc2 (fun _ _ _ h => h) (Or.inl ⟨?wn2, ?hy2⟩) (by assumption) ?rest2
      case ho2 => (simp only [List.getElem?_toArray, List.getElem?_cons_succ, List.getElem?_cons_zero]; rfl)
      case ka2 => kernel_rfl
      case kb2 => kernel_rfl
      case kc2 => kernel_rfl
      case wn2 => rfl
      case hy2 => (intro w hSw; (try dsimp only at hSw); first | (go_simp; done) | (go_simp; with_reducible rfl))
      case rest2 =>
       try simp only [Act.put, List.setIfInBounds_toArray, List.set_cons_zero, List.set_cons_succ]
       refine wpAnyH_take (i := 3) (oi := ?oi3) (v := ?v3) ?ho3 ?ka3 ?kb3 ?kc3 (fun _ _ _ h => h) (Or.inl ⟨?wn3, ?hy3⟩) (by assumption) ?rest3
       case ho3 => (simp only [List.getElem?_toArray, List.getElem?_cons_succ, List.getElem?_cons_zero]; rfl)
       case ka3 => kernel_rfl
       case kb3 => kernel_rfl
       case kc3 => kernel_rfl
       case wn3 => rfl
       case hy3 => (intro w hSw; (try dsimp only at hSw); first | (go_simp; done) | (go_simp; with_reducible rfl))
       case rest3 =>
        try simp only [Act.put, List.setIfInBounds_toArray, List.set_cons_zero, List.set_cons_succ]
        refine wpAnyH_take (i := 4) (oi := ?oi4) (v := ?v4) ?ho4 ?ka4 ?kb4 ?kc4 (fun _ _ _ h => h) (Or.inl ⟨?wn4, ?hy4⟩) (by assumption) ?rest4
        case ho4 => (simp only [List.getElem?_toArray, List.getElem?_cons_succ, List.getElem?_cons_zero]; rfl)
        case ka4 => kernel_rfl
        case kb4 => kernel_rfl
        case kc4 => kernel_rfl
        case wn4 => rfl
        case hy4 => (intro w hSw; (try dsimp only at hSw); first | (go_simp; done) | (go_simp; with_reducible rfl))
        case rest4 =>
         try simp only [Act.put, List.setIfInBounds_toArray, List.set_cons_zero, List.set_cons_succ]
         refine wpAnyH_take (i := 5) (oi := ?oi5) (v := ?v5) ?ho5 ?ka5 ?kb5 ?kc5 (fun _ _ _ h => h) (Or.inl ⟨?wn5, ?hy5⟩) (by assumption) ?rest5
         case ho5 => (simp only [List.getElem?_toArray, List.getElem?_cons_succ, List.getElem?_cons_zero]; rfl)
         case ka5 => kernel_rfl
         case kb5 => kernel_rfl
         case kc5 => kernel_rfl
         case wn5 => rfl
         case hy5 => (intro w hSw; (try dsimp only at hSw); first | (go_simp; done) | (go_simp; with_reducible rfl))
         case rest5 =>
          try simp only [Act.put, List.setIfInBounds_toArray, List.set_cons_zero, List.set_cons_succ]
          refine wpAnyH_take (i := 6) (oi := ?oi6) (v := ?v6) ?ho6 ?ka6 ?kb6 ?kc6 (fun _ _ _ h => h) (Or.inl ⟨?wn6, ?hy6⟩) (by assumption) ?rest6
          case ho6 => (simp only [List.getElem?_toArray, List.getElem?_cons_succ, List.getElem?_cons_zero]; rfl)
          case ka6 => kernel_rfl
          case kb6 => kernel_rfl
          case kc6 => kernel_rfl
          case wn6 => rfl
          case hy6 => (intro w hSw; (try dsimp only at hSw); first | (go_simp; done) | (go_simp; with_reducible rfl))
          case rest6 =>
           try simp only [Act.put, List.setIfInBounds_toArray, List.set_cons_zero, List.set_cons_succ]
           refine wpAnyH_take (i := 7) (oi := ?oi7) (v := ?v7) ?ho7 ?ka7 ?kb7 ?kc7 (fun _ _ _ h => h) (Or.inl ⟨?wn7, ?hy7⟩) (by assumption) ?rest7
           case ho7 => (simp only [List.getElem?_toArray, List.getElem?_cons_succ, List.getElem?_cons_zero]; rfl)
           case ka7 => kernel_rfl
           case kb7 => kernel_rfl
           case kc7 => kernel_rfl
           case wn7 => rfl
           case hy7 => (intro w hSw; (try dsimp only at hSw); first | (go_simp; done) | (go_simp; with_reducible rfl))
           case rest7 =>
            try simp only [Act.put, List.setIfInBounds_toArray, List.set_cons_zero, List.set_cons_succ]
            refine wpAnyH_take (i := 8) (oi := ?oi8) (v := ?v8) ?ho8 ?ka8 ?kb8 ?kc8 (fun _ _ _ h => h) (Or.inl ⟨?wn8, ?hy8⟩) (by assumption) ?rest8
            case ho8 => (simp only [List.getElem?_toArray, List.getElem?_cons_succ, List.getElem?_cons_zero]; rfl)
            case ka8 => kernel_rfl
            case kb8 => kernel_rfl
            case kc8 => kernel_rfl
            case wn8 => rfl
            case hy8 => (intro w hSw; (try dsimp only at hSw); first | (go_simp; done) | (go_simp; with_reducible rfl))
            case rest8 =>
             try simp only [Act.put, List.setIfInBounds_toArray, List.set_cons_zero, List.set_cons_succ]
             refine wpAnyH_take (i := 9) (oi := ?oi9) (v := ?v9) ?ho9 ?ka9 ?kb9 ?kc9 (fun _ _ _ h => h) (Or.inl ⟨?wn9, ?hy9⟩) (by assumption) ?rest9
             case ho9 => (simp only [List.getElem?_toArray, List.getElem?_cons_succ, List.getElem?_cons_zero]; rfl)
             case ka9 => kernel_rfl
             case kb9 => kernel_rfl
             case kc9 => kernel_rfl
             case wn9 => rfl
             case hy9 => (intro w hSw; (try dsimp only at hSw); first | (go_simp; done) | (go_simp; with_reducible rfl))
             case rest9 =>
              try simp only [Act.put, List.setIfInBounds_toArray, List.set_cons_zero, List.set_cons_succ]
              refine wpAnyH_take (i := 10) (oi := ?oi10) (v := ?v10) ?ho10 ?ka10 ?kb10 ?kc10 (fun _ _ _ h => h) (Or.inl ⟨?wn10, ?hy10⟩) (by assumption) ?rest10
              case ho10 => (simp only [List.getElem?_toArray, List.getElem?_cons_succ, List.getElem?_cons_zero]; rfl)
              case ka10 => kernel_rfl
              case kb10 => kernel_rfl
              case kc10 => kernel_rfl
              case wn10 => rfl
              case hy10 => (intro w hSw; (try dsimp only at hSw); first | (go_simp; done) | (go_simp; with_reducible rfl))
              case rest10 =>
               try simp only [Act.put, List.setIfInBounds_toArray, List.set_cons_zero, List.set_cons_succ]
               refine wpAnyH_take (i := 11) (oi := ?oi11) (v := ?v11) ?ho11 ?ka11 ?kb11 ?kc11 (fun _ _ _ h => h) (Or.inl ⟨?wn11, ?hy11⟩) (by assumption) ?rest11
               case ho11 => (simp only [List.getElem?_toArray, List.getElem?_cons_succ, List.getElem?_cons_zero]; rfl)
               case ka11 => kernel_rfl
               case kb11 => kernel_rfl
               case kc11 => kernel_rfl
               case wn11 => rfl
               case hy11 => (intro w hSw; (try dsimp only at hSw); first | (go_simp; done) | (go_simp; with_reducible rfl))
               case rest11 =>
                try simp only [Act.put, List.setIfInBounds_toArray, List.set_cons_zero, List.set_cons_succ]
                refine wpAnyH_take (i := 12) (oi := ?oi12) (v := ?v12) ?ho12 ?ka12 ?kb12 ?kc12 (fun _ _ _ h => h) (Or.inl ⟨?wn12, ?hy12⟩) (by assumption) ?rest12
                case ho12 => (simp only [List.getElem?_toArray, List.getElem?_cons_succ, List.getElem?_cons_zero]; rfl)
                case ka12 => kernel_rfl
                case kb12 => kernel_rfl
                case kc12 => kernel_rfl
                case wn12 => rfl
                case hy12 => (intro w hSw; (try dsimp only at hSw); first | (go_simp; done) | (go_simp; with_reducible rfl))
                case rest12 =>
                 try simp only [Act.put, List.setIfInBounds_toArray, List.set_cons_zero, List.set_cons_succ]
                 refine wpAnyH_take (i := 13) (oi := ?oi13) (v := ?v13) ?ho13 ?ka13 ?kb13 ?kc13 (fun _ _ _ h => h) (Or.inl ⟨?wn13, ?hy13⟩) (by assumption) ?rest13
                 case ho13 => (simp only [List.getElem?_toArray, List.getElem?_cons_succ, List.getElem?_cons_zero]; rfl)
                 case ka13 => kernel_rfl
                 case kb13 => kernel_rfl
                 case kc13 => kernel_rfl
                 case wn13 => rfl
                 case hy13 => (intro w hSw; (try dsimp only at hSw); first | (go_simp; done) | (go_simp; with_reducible rfl))
                 case rest13 =>
                  try simp only [Act.put, List.setIfInBounds_toArray, List.set_cons_zero, List.set_cons_succ]
                  refine wpAnyH_take (i := 14) (oi := ?oi14) (v := ?v14) ?ho14 ?ka14 ?kb14 ?kc14 (fun _ _ _ h => h) (Or.inl ⟨?wn14, ?hy14⟩) (by assumption) ?rest14
                  case ho14 => (simp only [List.getElem?_toArray, List.getElem?_cons_succ, List.getElem?_cons_zero]; rfl)
                  case ka14 => kernel_rfl
                  case kb14 => kernel_rfl
                  case kc14 => kernel_rfl
                  case wn14 => rfl
                  case hy14 => (intro w hSw; (try dsimp only at hSw); first | (go_simp; done) | (go_simp; with_reducible rfl))
                  case rest14 =>
                   try simp only [Act.put, List.setIfInBounds_toArray, List.set_cons_zero, List.set_cons_succ]
                   refine wpAnyH_ready (rs := [1, 15]) (by kernel_rfl) (by simp) ?_
                   refine AllReadyH.cons (o := ?o15) ?ho15 (fun K hK => ?st15) ?more15
                   case ho15 => (simp only [List.getElem?_toArray, List.getElem?_cons_succ, List.getElem?_cons_zero]; rfl)
                   case st15 =>
                    go_simp
                    refine hK.out _ _ ?hS15 (fun hHeld => ?goon15)
                    case hS15 =>
                     try dsimp only
                     first
                           | (refine ⟨?_, ?_, ?_, ?_, ?_⟩ <;> assumption)
                           | go_keep
                    case goon15 =>
                     clear hK K
                     try simp only [Act.put, List.setIfInBounds_toArray, List.set_cons_zero, List.set_cons_succ]
                     refine wpAnyH_ready (rs := [15]) (by kernel_rfl) (by simp) ?_
                     refine AllReadyH.cons (o := ?o16) ?ho16 (fun K hK => ?st16) ?more16
                     case ho16 => (simp only [List.getElem?_toArray, List.getElem?_cons_succ, List.getElem?_cons_zero]; rfl)
                     case st16 =>
                      go_simp
                      refine hK.out _ _ ?hS16 (fun hHeld => ?goon16)
                      case hS16 =>
                       try dsimp only
                       first
                             | (refine ⟨?_, ?_, ?_, ?_, ?_⟩ <;> assumption)
                             | go_keep
                      case goon16 =>
                       clear hK K
                       try simp only [Act.put, List.setIfInBounds_toArray, List.set_cons_zero, List.set_cons_succ]
                       refine wpAnyH_ready (rs := [16]) (by kernel_rfl) (by simp) ?_
                       refine AllReadyH.cons (o := ?o17) ?ho17 (fun K hK => ?st17) ?more17
                       case ho17 => (simp only [List.getElem?_toArray, List.getElem?_cons_succ, List.getElem?_cons_zero]; rfl)
                       case st17 =>
                        first
                              | (refine step_append_lies _ (by rfl) _ _ _ (by rfl) W.heap.size 47 i0 _ 3 24 Tryz.underlying25 hi hz0 hz1 hz2 rfl (by decide) (.slice ae F ce) F (Es.flatMap encE) (by rfl) HOA.out ⟨w3.heap.size, 0, none⟩ 1 1 [.int .i64 a, .int .i64 l, .int .i64 b] (by rfl) (by rfl) (World.news_of_block (cs := #[.int .i64 a, .int .i64 l, .int .i64 b]) (t := 47) (fr := (0, 0)) hnew) (by simp [Value.oneCell']) (by decide) (by first | omega | (simp [maxLen]; omega)) (by first | omega | (simp; omega)) (by first | omega | (simp; omega)) (w3.heap.size + 1) (by first | omega | (simp; omega)) ?_; intro gg cap w6 hown6 hgrow6 hat6 hlt6; have z0 := (hgrow6.cell_far ⟨eb, 0, none⟩ (by rw [hsA]; show eb < _; omega) n0).trans R0; have z1 := (hgrow6.cell_far ⟨eb, 1, none⟩ (by rw [hsA]; show eb < _; omega) n0).trans R1; have z2 := (hgrow6.cell_far ⟨eb, 2, none⟩ (by rw [hsA]; show eb < _; omega) n0).trans R2; have z3 := (hgrow6.cell_far ⟨pb, po + ms, none⟩ (by rw [hsA]; show pb < _; omega) n3).trans R3; have z4 := (hgrow6.cell_far ⟨pb, po + md, none⟩ (by rw [hsA]; show pb < _; omega) n3).trans R4; have HP6 := HS3.out.push (ev' := .slice (some ⟨gg, 0, none⟩) (F + 1) cap) (x := ⟨a, l, b⟩) hne hs3 hob HAL.out hgrow6 (by rw [← HFE.out]; exact hown6); have hO6 := (hgrow6.block ob (HS3.out.out.below HAL.out).lt (blk_own_neL (HS3.out.out.below HAL.out) HOA.out (by decide))).trans (HS3.out.out.below HAL.out); have q3 := Blk.cell hO6 3 rfl; have q4 := Blk.frozen hO6 3; have v0 := (World.cell?_setCell_far w6 ⟨ob, 3, none⟩ ⟨eb, 0, none⟩ (.slice (some ⟨gg, 0, none⟩) (F + 1) cap) (fun k => n4 k.symm)).trans z0; have v1 := (World.cell?_setCell_far w6 ⟨ob, 3, none⟩ ⟨eb, 1, none⟩ (.slice (some ⟨gg, 0, none⟩) (F + 1) cap) (fun k => n4 k.symm)).trans z1; have v2 := (World.cell?_setCell_far w6 ⟨ob, 3, none⟩ ⟨eb, 2, none⟩ (.slice (some ⟨gg, 0, none⟩) (F + 1) cap) (fun k => n4 k.symm)).trans z2; have v3 := (World.cell?_setCell_far w6 ⟨ob, 3, none⟩ ⟨pb, po + ms, none⟩ (.slice (some ⟨gg, 0, none⟩) (F + 1) cap) (fun k => n5 k.symm)).trans z3; have v4 := (World.cell?_setCell_far w6 ⟨ob, 3, none⟩ ⟨pb, po + md, none⟩ (.slice (some ⟨gg, 0, none⟩) (F + 1) cap) (fun k => n5 k.symm)).trans z4)
                        refine hK.out _ _ ?hS17 (fun hHeld => ?goon17)
                        case hS17 =>
                         try dsimp only
                         first
                               | (refine ⟨?_, ?_, ?_, ?_, ?_⟩ <;> assumption)
                               | go_keep
                        case goon17 =>
                         clear hK K
                         try simp only [Act.put, List.setIfInBounds_toArray, List.set_cons_zero, List.set_cons_succ]
                         refine wpAnyH_take (i := 17) (oi := ?oi18) (v := ?v18) ?ho18 ?ka18 ?kb18 ?kc18 (fun _ _ _ h => h) (Or.inl ⟨?wn18, ?hy18⟩) (by assumption) ?rest18
                         case ho18 => (simp only [List.getElem?_toArray, List.getElem?_cons_succ, List.getElem?_cons_zero]; rfl)
                         case ka18 => kernel_rfl
                         case kb18 => kernel_rfl
                         case kc18 => kernel_rfl
                         case wn18 => rfl
                         case hy18 => (intro w hSw; (try dsimp only at hSw); first | (go_simp; done) | (go_simp; with_reducible rfl))
                         case rest18 =>
                          try simp only [Act.put, List.setIfInBounds_toArray, List.set_cons_zero, List.set_cons_succ]
                          refine wpAnyH_ready (rs := [18]) (by kernel_rfl) (by simp) ?_
                          refine AllReadyH.cons (o := ?o19) ?ho19 (fun K hK => ?st19) ?more19
                          case ho19 => (simp only [List.getElem?_toArray, List.getElem?_cons_succ, List.getElem?_cons_zero]; rfl)
                          case st19 =>
                           go_simp
                           refine hK.out _ _ ?hS19 (fun hHeld => ?goon19)
                           case hS19 =>
                            try dsimp only
                            first
                                  | (refine ⟨?_, ?_, ?_, ?_, ?_⟩ <;> assumption)
                                  | go_keep
                           case goon19 =>
                            clear hK K
                            try simp only [Act.put, List.setIfInBounds_toArray, List.set_cons_zero, List.set_cons_succ]
                            refine wpAnyH_done (by kernel_rfl) ?_ _
                            refine NoPanic.normal ?_
                            have HP7 := Lib.hid HP6
                            clear hown6 hgrow6 hat6 hlt6 HP6 hO6 q3 q4 z0 z1 z2 z3 z4 v0 v1 v2 v3 v4 P0 P1 P2 P3 P4 P5 R0 R1 R2 R3 R4 R5 hnew
                            go_wp2
                            go_roundw
                            case rel => exact ⟨k + 1, _, by omega, by go_num, by rw [HTK.out]; exact HP7.out⟩
                            case measure => simp [intOf]; omega
                          exact AllReadyH.nil
                       exact AllReadyH.nil
                     exact AllReadyH.nil
                   refine AllReadyH.cons (o := ?o20) ?ho20 (fun K hK => ?st20) ?more20
                   case ho20 => (simp only [List.getElem?_toArray, List.getElem?_cons_succ, List.getElem?_cons_zero]; rfl)
                   case st20 =>
                    go_simp
                    refine hK.out _ _ ?hS20 (fun hHeld => ?goon20)
                    case hS20 =>
                     try dsimp only
                     first
                           | (refine ⟨?_, ?_, ?_, ?_, ?_⟩ <;> assumption)
                           | go_keep
                    case goon20 =>
                     clear hK K
                     try simp only [Act.put, List.setIfInBounds_toArray, List.set_cons_zero, List.set_cons_succ]
                     refine wpAnyH_ready (rs := [1]) (by kernel_rfl) (by simp) ?_
                     refine AllReadyH.cons (o := ?o21) ?ho21 (fun K hK => ?st21) ?more21
                     case ho21 => (simp only [List.getElem?_toArray, List.getElem?_cons_succ, List.getElem?_cons_zero]; rfl)
                     case st21 =>
                      go_simp
                      refine hK.out _ _ ?hS21 (fun hHeld => ?goon21)
                      case hS21 =>
                       try dsimp only
                       first
                             | (refine ⟨?_, ?_, ?_, ?_, ?_⟩ <;> assumption)
                             | go_keep
                      case goon21 =>
                       clear hK K
                       try simp only [Act.put, List.setIfInBounds_toArray, List.set_cons_zero, List.set_cons_succ]
                       refine wpAnyH_ready (rs := [16]) (by kernel_rfl) (by simp) ?_
                       refine AllReadyH.cons (o := ?o22) ?ho22 (fun K hK => ?st22) ?more22
                       case ho22 => (simp only [List.getElem?_toArray, List.getElem?_cons_succ, List.getElem?_cons_zero]; rfl)
                       case st22 =>
                        first
                              | (refine step_append_lies _ (by rfl) _ _ _ (by rfl) W.heap.size 47 i0 _ 3 24 Tryz.underlying25 hi hz0 hz1 hz2 rfl (by decide) (.slice ae F ce) F (Es.flatMap encE) (by rfl) HOA.out ⟨w3.heap.size, 0, none⟩ 1 1 [.int .i64 a, .int .i64 l, .int .i64 b] (by rfl) (by rfl) (World.news_of_block (cs := #[.int .i64 a, .int .i64 l, .int .i64 b]) (t := 47) (fr := (0, 0)) hnew) (by simp [Value.oneCell']) (by decide) (by first | omega | (simp [maxLen]; omega)) (by first | omega | (simp; omega)) (by first | omega | (simp; omega)) (w3.heap.size + 1) (by first | omega | (simp; omega)) ?_; intro gg cap w6 hown6 hgrow6 hat6 hlt6; have z0 := (hgrow6.cell_far ⟨eb, 0, none⟩ (by rw [hsA]; show eb < _; omega) n0).trans R0; have z1 := (hgrow6.cell_far ⟨eb, 1, none⟩ (by rw [hsA]; show eb < _; omega) n0).trans R1; have z2 := (hgrow6.cell_far ⟨eb, 2, none⟩ (by rw [hsA]; show eb < _; omega) n0).trans R2; have z3 := (hgrow6.cell_far ⟨pb, po + ms, none⟩ (by rw [hsA]; show pb < _; omega) n3).trans R3; have z4 := (hgrow6.cell_far ⟨pb, po + md, none⟩ (by rw [hsA]; show pb < _; omega) n3).trans R4; have HP6 := HS3.out.push (ev' := .slice (some ⟨gg, 0, none⟩) (F + 1) cap) (x := ⟨a, l, b⟩) hne hs3 hob HAL.out hgrow6 (by rw [← HFE.out]; exact hown6); have hO6 := (hgrow6.block ob (HS3.out.out.below HAL.out).lt (blk_own_neL (HS3.out.out.below HAL.out) HOA.out (by decide))).trans (HS3.out.out.below HAL.out); have q3 := Blk.cell hO6 3 rfl; have q4 := Blk.frozen hO6 3; have v0 := (World.cell?_setCell_far w6 ⟨ob, 3, none⟩ ⟨eb, 0, none⟩ (.slice (some ⟨gg, 0, none⟩) (F + 1) cap) (fun k => n4 k.symm)).trans z0; have v1 := (World.cell?_setCell_far w6 ⟨ob, 3, none⟩ ⟨eb, 1, none⟩ (.slice (some ⟨gg, 0, none⟩) (F + 1) cap) (fun k => n4 k.symm)).trans z1; have v2 := (World.cell?_setCell_far w6 ⟨ob, 3, none⟩ ⟨eb, 2, none⟩ (.slice (some ⟨gg, 0, none⟩) (F + 1) cap) (fun k => n4 k.symm)).trans z2; have v3 := (World.cell?_setCell_far w6 ⟨ob, 3, none⟩ ⟨pb, po + ms, none⟩ (.slice (some ⟨gg, 0, none⟩) (F + 1) cap) (fun k => n5 k.symm)).trans z3; have v4 := (World.cell?_setCell_far w6 ⟨ob, 3, none⟩ ⟨pb, po + md, none⟩ (.slice (some ⟨gg, 0, none⟩) (F + 1) cap) (fun k => n5 k.symm)).trans z4)
                        refine hK.out _ _ ?hS22 (fun hHeld => ?goon22)
                        case hS22 =>
                         try dsimp only
                         first
                               | (refine ⟨?_, ?_, ?_, ?_, ?_⟩ <;> assumption)
                               | go_keep
                        case goon22 =>
                         clear hK K
                         try simp only [Act.put, List.setIfInBounds_toArray, List.set_cons_zero, List.set_cons_succ]
                         refine wpAnyH_take (i := 17) (oi := ?oi23) (v := ?v23) ?ho23 ?ka23 ?kb23 ?kc23 (fun _ _ _ h => h) (Or.inl ⟨?wn23, ?hy23⟩) (by assumption) ?rest23
                         case ho23 => (simp only [List.getElem?_toArray, List.getElem?_cons_succ, List.getElem?_cons_zero]; rfl)
                         case ka23 => kernel_rfl
                         case kb23 => kernel_rfl
                         case kc23 => kernel_rfl
                         case wn23 => rfl
                         case hy23 => (intro w hSw; (try dsimp only at hSw); first | (go_simp; done) | (go_simp; with_reducible rfl))
                         case rest23 =>
                          try simp only [Act.put, List.setIfInBounds_toArray, List.set_cons_zero, List.set_cons_succ]
                          refine wpAnyH_ready (rs := [18]) (by kernel_rfl) (by simp) ?_
                          refine AllReadyH.cons (o := ?o24) ?ho24 (fun K hK => ?st24) ?more24
                          case ho24 => (simp only [List.getElem?_toArray, List.getElem?_cons_succ, List.getElem?_cons_zero]; rfl)
                          case st24 =>
                           go_simp
                           refine hK.out _ _ ?hS24 (fun hHeld => ?goon24)
                           case hS24 =>
                            try dsimp only
                            first
                                  | (refine ⟨?_, ?_, ?_, ?_, ?_⟩ <;> assumption)
                                  | go_keep
                           case goon24 =>
                            clear hK K
                            try simp only [Act.put, List.setIfInBounds_toArray, List.set_cons_zero, List.set_cons_succ]
                            refine wpAnyH_done (by kernel_rfl) ?_ _
                            refine NoPanic.normal ?_
                            have HP7 := Lib.hid HP6
                            clear hown6 hgrow6 hat6 hlt6 HP6 hO6 q3 q4 z0 z1 z2 z3 z4 v0 v1 v2 v3 v4 P0 P1 P2 P3 P4 P5 R0 R1 R2 R3 R4 R5 hnew
                            go_wp2
                            go_roundw
                            case rel => exact ⟨k + 1, _, by omega, by go_num, by rw [HTK.out]; exact HP7.out⟩
                            case measure => simp [intOf]; omega
                          exact AllReadyH.nil
                       exact AllReadyH.nil
                     exact AllReadyH.nil
                   exact AllReadyH.nil
   ·have hkE : k = EN := by omega
    obtain ⟨Es, hEs⟩ : ∃ Es, Es = (t.edges.take k).map (qtE p) := ⟨_, rfl⟩
    rw [← hEs] at HS hst
    have hEs2 : Es = t.edges.map (qtE p) := by rw [hEs, hkE, HEN.out, List.take_length]
    have HES := Lib.hid hEs2
    have hEl : Es.length ≤ 300 := by rw [hEs2, List.length_map, ← HEN.out]; exact hen3
    have HTY := Lib.hid (tidy_any W.heap.size ob _ _ _ _ Es W wC hst.below hsz hst.out hst.edges (by omega))
    have HED := Lib.hid hst.edges
    clear hEs hEs2 hst
    go_wp2_with fail
    refine Calls.mono HTY.out ?_
    rintro e w9 ⟨rfl, w5, ev5, rfl, hg5, hb5, ho5⟩
    obtain ⟨p5, c5, rfl, -, -⟩ := owns_slice ho5
    have hX5 : Blk w5 ob _ _ := (hg5.block ob HS.out.out.lt (blk_own_neL HS.out.out HED.out (by decide))).trans HS.out.out
    have hR5 : Blk w5 rc _ _ := (hg5.block rc HS.out.res.lt (blk_own_neL HS.out.res HED.out (by decide))).trans HS.out.res
    have hL5 := HS.out.labels.kept hg5 (own_types HS.out.labels HED.out (by decide))
    obtain ⟨w6, hw6⟩ : ∃ w6, w6 = w5.setCell ⟨ob, 3, none⟩ (.slice p5 (Lib.compact (sortEs Es)).length c5) := ⟨_, rfl⟩
    have hX6 : Blk w6 ob [.int .i64 n, .int .i64 q0, .slice l2 LN c2, .slice p5 (Lib.compact (sortEs Es)).length c5] 27 := by rw [hw6]; exact hX5.set 3 _
    have hR6 : Blk w6 rc [.int .i64 0, .int .i64 0, .slice none 0 0, .slice none 0 0] 27 := by rw [hw6]; exact hR5.setOther _ _ hne
    have HB6 : Hid (Below w.heap.size w w6) := by unfold Hid; rw [hw6]; exact HB.out.trans ((hb5.setCell hob _).mono hsW)
    have HL6 : Hid (w6.ownsRow w.heap.size 9 1 (.slice l2 LN c2) t.labels.length (t.labels.map .string)) := by unfold Hid; rw [hw6]; exact own_lower (own_sets hL5 hX5 (by decide) 3 _) hsW
    have HE6 : Hid (w6.ownsRow w.heap.size 47 3 (.slice p5 (Lib.compact (sortEs Es)).length c5) (Lib.compact (sortEs Es)).length ((Lib.compact (sortEs Es)).flatMap encE)) := by unfold Hid; rw [hw6]; exact own_lower (own_sets ho5 hX5 (by decide) 3 _) hsW
    rw [← hw6]
    have q0 := hX6.cell 0 rfl
    have q1 := hX6.cell 1 rfl
    have q2 := hX6.cell 2 rfl
    have q3 := hX6.cell 3 rfl
    have r0 := hR6.cell 0 rfl
    have r1 := hR6.cell 1 rfl
    have r2 := hR6.cell 2 rfl
    have r3 := hR6.cell 3 rfl
    have s0 := hR6.frozen 0
    have s1 := hR6.frozen 1
    have s2 := hR6.frozen 2
    have s3 := hR6.frozen 3
    have HR6 := Lib.hid hR6
    clear hX5 hR5 hL5 ho5 hg5 hb5 hX6 hR6 hw6 HTY
    go_wp2
    refine bodyPost_ret (quo_results rfl (put4 HR6.out)) rfl ?_
    have hed : (quotT t p n).edges = Lib.compact (sortEs Es) := by rw [HES.out]; rfl
    refine ⟨n, _, _, HN1.out, HN2.out, by rw [HQ0.out]; unfold quotT; rw [← HKI.out, Int.toNat_natCast], below_put4 HB6.out hle, ?_, ?_⟩
    ·exact own_put4 HR6.out HL6.out (by decide)
    ·rw [hed]
     exact own_put4 HR6.out HE6.out (by decide)

end Go.Proofs.YtdkbbknhighebaaGreatDoor

namespace Go.Proofs.YtdkbbknhighebaaGreatDoor
open Go Go.RowKit


theorem Mul_one (P : Nat) (w : World) (hP : P ≤ 1073741824) : Calls Tryz.prog 92 #[.int .u64 1, .int .u64 P] w fun e w' => e = .returned (.tuple #[.int .u64 0, .int .u64 P]) ∧ w = w' := by
 have := Tryz.bits_Mul 1 P (by decide) (by omega) w
 refine Calls.mono this ?_
 rintro e w' ⟨rfl, rfl⟩
 refine ⟨?_, rfl⟩
 rw [Nat.one_mul, Nat.div_eq_of_lt (by omega), Nat.mod_eq_of_lt (by omega)]
 rfl

end Go.Proofs.YtdkbbknhighebaaGreatDoor

namespace Go.Proofs.YtdkbbknhighebaaGreatDoor
open Go Go.RowKit


theorem info_intRN : (Tryz.prog.info? 2).map (fun i => (i.zero, i.size, i.bytes)) = some (some (.int .i64 0), 1, 8) := by kernel_rfl
theorem size_intRN : (Tryz.prog.info? 2).map (·.size) = some 1 := by kernel_rfl

def halfN (n P : Nat) : List Value := List.replicate n (.int .i64 (-1)) ++ List.replicate (P - n) (.int .i64 0)
theorem halfN_len {n P : Nat} (h : n ≤ P) : (halfN n P).length = P := by unfold halfN; simp; omega
theorem halfN_splice {n P m : Nat} (h : n + m ≤ P) : splice (halfN n P) n (List.replicate m (.int .i64 (-1))) = halfN (n + m) P := by
 unfold splice halfN
 rw [List.take_append_of_le_length (by simp), List.take_of_length_le (by simp), List.drop_append]
 simp only [List.length_replicate, List.drop_replicate]
 rw [show n - (n + m) = 0 from by omega, List.replicate_zero, List.nil_append, ← List.append_assoc, List.replicate_append_replicate, show P - n - (n + m - n) = P - (n + m) from by omega]
theorem halfN_get {n P j : Nat} (h : j < n) : (halfN n P)[j]? = some (.int .i64 (-1)) := by
 unfold halfN
 rw [List.getElem?_append_left (by simpa using h), List.getElem?_replicate, if_pos h]

set_option maxRecDepth 100000 in
set_option maxHeartbeats 400000 in
theorem RepeatN_any (P xb : Nat) (w : World) (h1 : 1 ≤ P) (h2 : P ≤ 40) (hx : w.cell? ⟨xb, 0, none⟩ = some (.int .i64 (-1))) :
  Calls Tryz.prog 64 #[.slice (some ⟨xb, 0, none⟩) 1 1, .int .i64 P] w fun e w' => e = .returned (.slice (some ⟨w.heap.size, 0, none⟩) P P) ∧ Below w.heap.size w w' ∧ Blk w' w.heap.size (List.replicate P (.int .i64 (-1))) 2 := by
 obtain ⟨i0, hi, hz0, hz1, hz2⟩ := info_parts info_intRN
 have hxl := World.block_lt_of_cell? _ _ hx
 go_enter Tryz.func64, Tryz.ntmps64
 go_wp2_with fail
 refine (Mul_one P _ (by omega)).mono ?_
 rintro e w' ⟨rfl, rfl⟩
 go_wp2_with (at_make; refine wpList_make_full _ rfl _ _ 35 rfl w.heap.size 2 i0 _ 1 Tryz.underlying35 hi hz0 hz1 .i64 .i64 _ _ P rfl rfl rfl rfl ?_ ?_ ?_ ?_)
 ·rw [hz2]; omega
 ·simp [maxLen]; omega
 ·exact Nat.le_refl _
 ·intro w1 ho hg
  rw [toList_madeCells_one] at ho
  have hb1 : Below w.heap.size w w1 := (Below.refl _ w).grown hg (Nat.le_refl _) (fun _ h => by cases h)
  have hB : Blk w1 w.heap.size (halfN 0 P) 2 := by
   obtain ⟨h0, ⟨e9, -⟩ | ⟨g9, cap, cur, e9, -, hh, hc, hm, hs, ht⟩⟩ := ho
   ·cases e9
   ·simp only [Value.slice.injEq, Option.some.injEq, Addr.mk.injEq, and_true, true_and] at e9
    obtain ⟨e9, rfl⟩ := e9
    subst e9
    unfold Blk halfN
    rw [hh]
    rw [List.take_of_length_le (by simp; omega)] at ht
    simp only [List.replicate_zero, List.nil_append, Nat.sub_zero]
    rw [← ht]
  have hx1 := keeps hb1 hxl hx
  clear hi hz0 hz1 hz2 i0 ho hg
  have HW1 := Lib.hid hb1
  have hB' : w1.heap[w.heap.size]? = some (.cells (halfN 0 P).toArray 2 (0, 0)) := hB
  clear hb1 hx
  go_wp2_with (with_reducible show wpList _ _ _ (⟨some 33, _, _, _, _, _⟩ :: _) _ _; go_loud (refine wpList_copy_splice rfl (.tmp 31) (.tmp 32) 35 35 rfl 2 Tryz.underlying35 size_intRN _ _ _ _ _ _ rfl rfl w.heap.size 0 (halfN 0 P) 2 hB' [.int .i64 (-1)] ?c1 ?c2 ?c3 ?c4 w.heap.size w HW1.out (Nat.le_refl _) ?_))
  case c1 => show 1 = Nat.min 1 P; exact (Nat.min_eq_left h1).symm
  case c2 =>
   intro j v hj
   match j, hj with
   | 0, hj => simp at hj; subst hj; exact hx1
   | j + 1, hj => simp at hj
  case c3 => rw [halfN_len (by omega)]; simpa using h1
  case c4 => intro v hv; simp at hv; subst hv; rfl
  intro w2 HG2 hb2
  have hB2 : Blk w2 w.heap.size (halfN 1 P) 2 := by
   have := HG2.out
   rw [show ([.int .i64 (-1)] : List Value) = List.replicate 1 (.int .i64 (-1)) from rfl, halfN_splice (by omega)] at this
   rw [Nat.zero_add] at this
   exact this
  have HB2 := Lib.hid hb2
  have HBB2 := Lib.hid hB2
  clear HG2 hb2 hB hB' hB2 HW1 hx1
  go_wp2_with fail
  go_loopw [8] (fun i wr => ∃ n : Nat, 1 ≤ n ∧ n ≤ P ∧ i = .int .i64 n ∧ Below w.heap.size w wr ∧ Blk wr w.heap.size (halfN n P) 2) (fun i _ => P - (intOf i).toNat)
  case atStart => exact ⟨1, Nat.le_refl _, h1, rfl, HB2.out, HBB2.out⟩
  case round =>
   obtain ⟨n, hn1, hn, rfl, hb, hB⟩ := hrel
   have HB := Lib.hid hb
   clear HB2 HBB2 hb
   by_cases hlt : n < P
   ·have hlt' : (n : Int) < (P : Int) := by omega
    have hni : (n : Int) ≤ (P : Int) := by omega
    have hn0 : (0 : Int) ≤ (n : Int) := by omega
    obtain ⟨m, hm⟩ : ∃ m, m = min n (P - n) := ⟨_, rfl⟩
    have hmP : n + m ≤ P := by omega
    have hmn : m ≤ n := by omega
    have hm1 : 1 ≤ m := by omega
    have hB' : wr.drew.heap[w.heap.size]? = some (.cells (halfN n P).toArray 2 (0, 0)) := hB.below ((Below.refl _ _).drew)
    have hPn : ¬ P = n := by omega
    have HBD : Below w.heap.size w wr.drew := HB.out.drew
    have hrun := run_copy_row (P := Tryz.prog) wr.drew 35 35 3 2 w.heap.size n (P - n) (P - n) ⟨w.heap.size, 0, none⟩ n P (halfN n P).toArray 2 (List.replicate m (.int .i64 (-1))) Tryz.underlying35 size_intRN hB'
     (by rw [List.length_replicate]; exact hm) (fun j v hj => by
      rw [List.getElem?_replicate] at hj
      split at hj
      ·next hlt2 =>
       cases hj
       have : Blk wr.drew w.heap.size (halfN n P) 2 := hB'
       have := this.cell j (halfN_get (P := P) (show j < n by omega))
       rw [Lib.add_plain, Nat.zero_add]
       exact this
      ·cases hj) (by rw [List.length_replicate]; simp [halfN_len hn]; exact hmP) (fun v hv => by rw [List.eq_of_mem_replicate hv]; rfl)
    obtain ⟨W3, hW3⟩ : ∃ W3, W3 = wr.drew.setRow w.heap.size ((halfN n P).toArray.toList.take n ++ List.replicate m (Value.int .i64 (-1)) ++ (halfN n P).toArray.toList.drop (n + (List.replicate m (Value.int .i64 (-1))).length)).toArray := ⟨_, rfl⟩
    rw [← hW3, List.length_replicate] at hrun
    have HB3 : Hid (Below w.heap.size w W3) := by unfold Hid; rw [hW3]; exact below_setRow HBD (Nat.le_refl _) _
    have HBK3 : Hid (Blk W3 w.heap.size (halfN (n + m) P) 2) := by
     unfold Hid
     rw [hW3, ← halfN_splice hmP]
     have := setRow_heap wr.drew w.heap.size _ ((halfN n P).toArray.toList.take n ++ List.replicate m (Value.int .i64 (-1)) ++ (halfN n P).toArray.toList.drop (n + (List.replicate m (Value.int .i64 (-1))).length)).toArray 2 _ hB'
     unfold Blk
     simpa [splice] using this
    clear hW3 hB hB' HBD hm
    go_wp2_with fail
    go_region
    clear hrun
    go_wp2_with fail
    go_roundw
    case rel => exact ⟨n + m, by omega, hmP, by go_num, HB3.out, HBK3.out⟩
    case measure => simp [intOf]; omega
   ·obtain rfl : n = P := by omega
    go_wp2_with fail
    go_ret
    refine ⟨rfl, HB.out, ?_⟩
    unfold halfN at hB
    rw [Nat.sub_self, List.replicate_zero, List.append_nil] at hB
    exact hB

end Go.Proofs.YtdkbbknhighebaaGreatDoor
