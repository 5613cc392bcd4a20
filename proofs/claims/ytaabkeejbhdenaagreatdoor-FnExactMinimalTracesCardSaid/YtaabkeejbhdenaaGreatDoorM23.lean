/-
  The implementation's MinimalTraces.
  The reference's l12Classes: the classes of the states of a deterministic system.
-/
import Derived.Test.YtaabkeejbhdenaaGreatDoorM15
import Derived.Test.YtaabkeejbhdenaaGreatDoorM22
import Derived.Test.YtaabkeejbhdenaaGreatDoorM19
import Derived.Test.YtaabkeejbhdenaaGreatDoorM16
import Derived.Test.YtaabkeejbhdenaaGreatDoorM18
namespace Go.Proofs.YtaabkeejbhdenaaGreatDoor
open Go Go.RowKit

theorem imt_results {w : World} {b : Nat} {v0 v1 v2 v3 : Value} {tmps : Array Value} (hc : tmps.getD 2 undef = .pointer (some ⟨b, 0, none⟩)) (hb : Blk w b [v0, v1, v2, v3] 29) :
  (results Tryz.f8 tmps).run Tryz.prog w = .ok (.tuple #[.agg #[v0, v1, v2, v3], tmps.getD 3 undef]) w := by
 have h0 := hb.cell 0 rfl
 have h1 := hb.cell 1 rfl
 have h2 := hb.cell 2 rfl
 have h3 := hb.cell 3 rfl
 simp only [Array.getD_eq_getD_getElem?] at hc
 simp [results, Tryz.results8, go_sem, hc, h0, h1, h2, h3, Result.andThen]

set_option maxRecDepth 100000 in
set_option maxHeartbeats 4000000 in
theorem implMinimalTraces_any (lo : Nat) (t : Lts) (lv ev : Value) (w : World) (hsh : Short20 t.labels) (hl : SliceK 1 encS lo w lv t.labels) (he : SliceK 3 encE lo w ev t.edges) (g : Glob w) :
  Calls Tryz.prog 8 #[.agg #[.int .i64 t.states, .int .i64 t.initial, lv, ev]] w (RetMin t w) := by
 obtain ⟨tb, htb⟩ : ∃ tb, tb = w.heap.size := ⟨_, rfl⟩
 obtain ⟨wA, hwA⟩ : ∃ wA, wA = (w.alloc (.cells #[.int .i64 t.states, .int .i64 t.initial, lv, ev] 29)).alloc (.cells #[.int .i64 0, .int .i64 0, .slice none 0 0, .slice none 0 0] 29) := ⟨_, rfl⟩
 have hbA : Below w.heap.size w wA := by rw [hwA]; exact ((Below.refl _ _).alloc (Nat.le_refl _) _).alloc (by simp) _
 have hT : Blk wA tb [.int .i64 t.states, .int .i64 t.initial, lv, ev] 29 := by rw [hwA, htb]; exact (Blk.new w _ _).alloc _
 have hR : Blk wA (tb + 1) [.int .i64 0, .int .i64 0, .slice none 0 0, .slice none 0 0] 29 := by
  have := Blk.new (w.alloc (.cells #[.int .i64 t.states, .int .i64 t.initial, lv, ev] 29)) [.int .i64 0, .int .i64 0, .slice none 0 0, .slice none 0 0] 29
  rw [World.size_alloc, ← htb] at this
  rw [hwA]
  exact this
 have HSH := Lib.hid hsh
 have HL := Lib.hid (hl.below hbA)
 have HE := Lib.hid (he.below hbA)
 have HG := Lib.hid (g.below hbA)
 have HBA := Lib.hid hbA
 have HT := Lib.hid hT
 have HR := Lib.hid hR
 have HWA := Lib.hid hwA
 have HTB := Lib.hid htb
 have hsW : w.heap.size ≤ wA.heap.size := hbA.size
 have hle : w.heap.size ≤ tb + 1 := by rw [htb]; omega
 skip
 clear hsh hl he g hwA hbA hT hR htb
 by_cases hv : Valid t
 ·have HV := Lib.hid hv
  have HVA : Hid (Calls Tryz.prog 24 #[.agg #[.int .i64 t.states, .int .i64 t.initial, lv, ev]] wA fun e w' => e = .returned (.bool true) ∧ Below wA.heap.size wA w') := Valid_yes hv HSH.out HL.out HE.out HG.out
  clear hv
  go_enter Tryz.func8, Tryz.ntmps8
  go_wp2_with fail
  rw [← HWA.out]
  refine Calls.mono HVA.out ?_
  rintro e w1 ⟨rfl, hb1⟩
  have HB1 := Lib.hid hb1
  have HR1 := Lib.hid (HR.out.below hb1)
  have HT1 := Lib.hid (HT.out.below hb1)
  have t0 := HT1.out.cell 0 rfl
  have t1 := HT1.out.cell 1 rfl
  have t2 := HT1.out.cell 2 rfl
  have t3 := HT1.out.cell 3 rfl
  have HD : Hid (Calls Tryz.prog 25 #[.agg #[.int .i64 t.states, .int .i64 t.initial, lv, ev]] w1 (RetSets t w1)) := determinize_any lo t lv ev w1 HV.out HSH.out (HL.out.below hb1) (HE.out.below hb1) (HG.out.below hb1)
  clear hb1
  rw [← HTB.out]
  go_wp2_with fail
  refine Calls.mono HD.out ?_
  rintro e w3 ⟨hb3, ⟨hfull, rfl⟩ | ⟨st, lvS, vr, evS, hok, rfl, hmem, hol⟩⟩
  ·obtain ⟨W3, hW3⟩ : ∃ W3, W3 = w3.alloc (.cells #[.int .i64 0, .int .i64 0, .slice none 0 0, .slice none 0 0] 29) := ⟨_, rfl⟩
   have hb4 : Below w3.heap.size w3 W3 := by rw [hW3]; exact (Below.refl _ _).alloc (Nat.le_refl _) _
   have HF := Lib.hid hfull
   have HB4 := Lib.hid (HB1.out.trans ((hb3.trans (hb4.mono hb3.size)).mono HB1.out.size))
   have HR4 := Lib.hid ((HR1.out.below hb3).below hb4)
   have HW3 := Lib.hid hW3
   have r0 := HR4.out.cell 0 rfl
   have r1 := HR4.out.cell 1 rfl
   have r2 := HR4.out.cell 2 rfl
   have r3 := HR4.out.cell 3 rfl
   have s0 := HR4.out.frozen 0
   have s1 := HR4.out.frozen 1
   have s2 := HR4.out.frozen 2
   have s3 := HR4.out.frozen 3
   rw [hW3] at r0 r1 r2 r3 s0 s1 s2 s3
   clear hfull hb3 hb4 hW3 t0 t1 t2 t3
   go_wp2
   rw [← HW3.out]
   refine bodyPost_ret (imt_results rfl ((((HR4.out.set 0 _).set 1 _).set 2 _).set 3 _)) rfl ?_
   exact min_none (((((HBA.out.trans (HB4.out.mono hsW)).setCell hle _).setCell hle _).setCell hle _).setCell hle _) (.inr (.inl ⟨HV.out, HF.out, rfl, rfl⟩))
  ·obtain ⟨la, lc, rfl, -, -⟩ := owns_slice hol
   obtain ⟨ea, ec, rfl, -, -⟩ := owns_slice hmem.2
   obtain ⟨-, hme⟩ := hmem
   obtain ⟨R, hRR⟩ : ∃ R, R = st.rows.length := ⟨_, rfl⟩
   obtain ⟨LN, hLN⟩ : ∃ LN, LN = t.labels.length := ⟨_, rfl⟩
   obtain ⟨EN, hEN⟩ : ∃ EN, EN = st.edges.length := ⟨_, rfl⟩
   have hml := hol
   rw [← hLN] at hml
   rw [← hEN] at hme
   rw [← hRR, ← hLN, ← hEN]
   obtain ⟨p3, hp3⟩ : ∃ p3, p3 = w3.heap.size := ⟨_, rfl⟩
   obtain ⟨W3, hW3⟩ : ∃ W3, W3 = w3.alloc (.cells #[.int .i64 R, .int .i64 0, .slice la LN lc, .slice ea EN ec] 29) := ⟨_, rfl⟩
   have hb4 : Below w3.heap.size w3 W3 := by rw [hW3]; exact (Below.refl _ _).alloc (Nat.le_refl _) _
   have h14 : Below w1.heap.size w1 W3 := hb3.trans (hb4.mono hb3.size)
   have hA4 := HB1.out.trans (h14.mono HB1.out.size)
   have hmn := minimal_any 0 R (dSys t st) (.slice la LN lc) (.slice ea EN ec) W3 (dSys_valid HV.out hok) (dSys_single HV.out hok) (dok_up hok) rfl (by rw [hRR]; rfl)
    (SliceK.of_owns (enc := encS) (e := 9) encS_len hLN (by rw [flat_encS]; exact own_lower (owns_below hml hb4) (Nat.zero_le _)))
    (SliceK.of_owns (enc := encE) (e := 73) encE_len hEN (own_lower (owns_below hme hb4) (Nat.zero_le _))) (HG.out.below hA4) HSH.out
   rw [show (dSys t st).states = (R : Int) from by rw [hRR]; rfl, show (dSys t st).initial = 0 from rfl] at hmn
   have HMN := Lib.hid hmn
   have HOK := Lib.hid hok
   have HB4 := Lib.hid hA4
   have HR4 := Lib.hid ((HR1.out.below hb3).below hb4)
   have HW3 := Lib.hid hW3
   have HP3 := Lib.hid hp3
   clear hok hb3 hb4 h14 hA4 hmn hW3 hp3 t0 t1 t2 t3 hme hml hol hRR hLN hEN
   go_wp2_with fail
   rw [← HW3.out]
   try rw [← HP3.out]
   refine Calls.mono HMN.out ?_
   rintro e w5 ⟨hb5, r, lv5, ev5, rfl, hms, hown⟩
   obtain ⟨la5, lc5, rfl, -, -⟩ := owns_slice hown.1
   obtain ⟨ea5, ec5, rfl, -, -⟩ := owns_slice hown.2
   have hs4 : w.heap.size ≤ W3.heap.size := (HBA.out.trans (HB4.out.mono hsW)).size
   have HB5 := Lib.hid (HBA.out.trans ((HB4.out.trans (hb5.mono HB4.out.size)).mono hsW))
   have HR5 := Lib.hid (HR4.out.below hb5)
   have HO5 := Lib.hid (hown.lower hs4)
   have HMS := Lib.hid hms
   have r0 := HR5.out.cell 0 rfl
   have r1 := HR5.out.cell 1 rfl
   have r2 := HR5.out.cell 2 rfl
   have r3 := HR5.out.cell 3 rfl
   have s0 := HR5.out.frozen 0
   have s1 := HR5.out.frozen 1
   have s2 := HR5.out.frozen 2
   have s3 := HR5.out.frozen 3
   clear hb5 hms hown HMN
   go_wp2
   refine bodyPost_ret (imt_results rfl ((((HR5.out.set 0 _).set 1 _).set 2 _).set 3 _)) rfl ?_
   refine ⟨((((HB5.out).setCell hle _).setCell hle _).setCell hle _).setCell hle _, r, 0, _, _, rfl, .inr (.inr ⟨HV.out, st, HOK.out, HMS.out, rfl⟩), ?_, ?_⟩
   ·exact own4 HR5.out HO5.out.1 (by decide)
   ·exact own4 HR5.out HO5.out.2 (by decide)
 ·have HV := Lib.hid hv
  have HVA : Hid (Calls Tryz.prog 24 #[.agg #[.int .i64 t.states, .int .i64 t.initial, lv, ev]] wA fun e w' => e = .returned (.bool false) ∧ Below wA.heap.size wA w') := Valid_no hv HSH.out HL.out HE.out HG.out
  clear hv
  go_enter Tryz.func8, Tryz.ntmps8
  go_wp2_with fail
  rw [← HWA.out]
  refine Calls.mono HVA.out ?_
  rintro e w1 ⟨rfl, hb1⟩
  have HB1 := Lib.hid hb1
  have HR1 := Lib.hid (HR.out.below hb1)
  have r0 := HR1.out.cell 0 rfl
  have r1 := HR1.out.cell 1 rfl
  have r2 := HR1.out.cell 2 rfl
  have r3 := HR1.out.cell 3 rfl
  have s0 := HR1.out.frozen 0
  have s1 := HR1.out.frozen 1
  have s2 := HR1.out.frozen 2
  have s3 := HR1.out.frozen 3
  clear hb1
  rw [← HTB.out]
  go_wp2
  refine bodyPost_ret (imt_results rfl ((((HR1.out.set 0 _).set 1 _).set 2 _).set 3 _)) rfl ?_
  exact min_none (((((HBA.out.trans (HB1.out.mono hsW)).setCell hle _).setCell hle _).setCell hle _).setCell hle _) (.inl ⟨HV.out, rfl, rfl⟩)

end Go.Proofs.YtaabkeejbhdenaaGreatDoor

namespace Go.Proofs.YtaabkeejbhdenaaGreatDoor
open Go Go.RowKit

theorem own_someC {w : World} {base e size n : Nat} {v : Value} {xs : List Value} (h : w.ownsRow base e size v n xs) (hn : 0 < n) : ∃ g c, v = .slice (some ⟨g, 0, none⟩) n c ∧ base ≤ g ∧ g < w.heap.size := by
 rcases h.2 with ⟨h1, h0⟩ | ⟨g, cap, cur, h1, h2, hg, -⟩
 ·omega
 ·exact ⟨g, cap, h1, h2, (Array.getElem?_eq_some_iff.1 hg).1⟩
/-- Two moves lead to one block, or both to none. -/
def sameTo (P : List Int) (x y : Int) : Prop := (if x < 0 then (-1 : Int) else P.getD x.toNat 0) = (if y < 0 then -1 else P.getD y.toNat 0)
theorem sameTo_both {P : List Int} {x y : Int} (hx : x < 0) (hy : y < 0) : sameTo P x y := by unfold sameTo; rw [if_pos hx, if_pos hy]
theorem sameTo_left {P : List Int} {x y : Int} (hP : ∀ z ∈ P, 0 ≤ z) (hx : x < 0) (hy : ¬ y < 0) : ¬ sameTo P x y := by
 unfold sameTo
 rw [if_pos hx, if_neg hy]
 intro h
 have h1 : 0 ≤ P.getD y.toNat 0 := by
  rw [List.getD_eq_getElem?_getD]
  cases e : P[y.toNat]? with
  | none => exact Int.le_refl 0
  | some z => exact hP z (List.mem_of_getElem? e)
 omega
theorem sameTo_right {P : List Int} {x y : Int} (hP : ∀ z ∈ P, 0 ≤ z) (hx : ¬ x < 0) (hy : y < 0) : ¬ sameTo P x y := fun h => sameTo_left hP hy hx h.symm
theorem sameTo_some {P : List Int} {x y : Int} (hx : ¬ x < 0) (hy : ¬ y < 0) : sameTo P x y ↔ P.getD x.toNat 0 = P.getD y.toNat 0 := by unfold sameTo; rw [if_neg hx, if_neg hy]

set_option maxRecDepth 100000 in
set_option maxHeartbeats 16000000 in
theorem l12Classes_any (p lo : Nat) (d : Lts) (w : World) (hv : Valid d) (hp : LtsPtr lo w p d) : Calls Tryz.prog 47 #[.pointer (some ⟨p, 0, none⟩)] w (MadeNums (restP d) w) := by
 have HV := Lib.hid hv
 have HP := Lib.hid hp
 have hst1 := hv.st0
 have hst2 := hv.st1
 have hlp := hv.labels.pos
 have hl12 := hv.labels.most
 obtain ⟨lv, ev, hpl, q0, -, q2, -, hl, -⟩ := hp
 obtain ⟨al, cl, rfl, hln, hlc, hlrow⟩ := hl
 obtain ⟨N, hN⟩ : ∃ N : Nat, (N : Int) = d.states := ⟨d.states.toNat, by omega⟩
 have hNs : d.states.toNat = N := by omega
 obtain ⟨LN, hLN⟩ : ∃ LN, LN = d.labels.length := ⟨_, rfl⟩
 obtain ⟨m, hm⟩ : ∃ m, m = d.labels.length - 1 := ⟨_, rfl⟩
 have hmL : m + 1 = LN := by omega
 rw [← hLN] at hln q2 hlp hl12
 rw [← hN] at q0 hst1 hst2
 have HQ0 := Lib.hid q0
 have HQ2 := Lib.hid q2
 have HLR := Lib.hid hlrow
 have HLN := Lib.hid hLN
 have HN := Lib.hid hN
 have hrest : restP d = partsR (goOf d) N m N := by unfold restP; rw [hNs, ← hm]
 rw [hrest]
 have hgo : ∀ i k, i < N → k < m → goOf d i k < (N : Int) := fun i k _ _ => by rw [hN]; exact (goOf_lt hv i k).2
 have HGOLT := Lib.hid hgo
 obtain ⟨i1, hi1, hz10, hz11, hz12⟩ := info_parts info_int64N
 have HI1 := Lib.hid hi1
 have hszp : 0 ≤ w.heap.size := Nat.zero_le _
 clear hv q2 hlrow hLN hN hm hrest hgo
 go_enter Tryz.func47, Tryz.ntmps47
 go_wp2_with (at_make; refine wpList_make_full _ rfl _ _ 66 rfl w.heap.size 2 i1 _ 1 Tryz.underlying66 hi1 hz10 hz11 .i64 .i64 _ _ N rfl rfl rfl rfl ?_ ?_ ?_ ?_)
 ·rw [hz12]; omega
 ·simp [maxLen]; omega
 ·exact Nat.le_refl _
 intro w1 ho hg
 rw [toList_madeCells_one] at ho
 obtain ⟨G, hG⟩ : ∃ G, G = w.heap.size := ⟨_, rfl⟩
 have HB1 : Hid (Below w.heap.size w w1) := (Below.refl _ w).grown hg (Nat.le_refl _) (fun _ h => by cases h)
 have HO : Hid (w1.ownsRow G 2 1 (.slice (some ⟨w.heap.size, 0, none⟩) N N) N ((partsR (goOf d) N m 0).map (Value.int .i64))) := by
  unfold Hid; rw [hG]; simpa [partsR] using ho
 have HG := Lib.hid hG
 clear ho hg hG q0
 go_wp2
 go_loopw [3, 4] (fun v3 v4 wr => ∃ (r g c : Nat), r ≤ N ∧ v4 = .int .i64 r ∧ v3 = .slice (some ⟨g, 0, none⟩) N c ∧ Below w.heap.size w wr ∧ wr.ownsRow G 2 1 (.slice (some ⟨g, 0, none⟩) N c) N ((partsR (goOf d) N m r).map (Value.int .i64))) (fun _ v4 _ => N - (intOf v4).toNat)
 case atStart => exact ⟨0, _, _, Nat.zero_le _, rfl, rfl, HB1.out, HO.out⟩
 case round =>
  clear HO HB1
  obtain ⟨r, g, c, hr, rfl, rfl, hbl, ho⟩ := hrel
  obtain ⟨wC, rfl⟩ : ∃ wC : World, wC = wr := ⟨_, rfl⟩
  have HBL := Lib.hid hbl
  have HO := Lib.hid ho
  have hszC := hbl.size
  have q0 := keeps hbl hpl HQ0.out
  clear hbl ho
  by_cases hlt : r < N
  ·obtain ⟨P, hP⟩ : ∃ P, P = partsR (goOf d) N m r := ⟨_, rfl⟩
   have hPl : P.length = N := by rw [hP]; exact partsR_len _ _ _ _
   have hP0 : ∀ z ∈ P, 0 ≤ z := fun z hz => by rw [hP] at hz; exact (partsR_range _ _ hz).1
   obtain ⟨bs, hbs⟩ : ∃ bs, bs = (List.range N).map (blkOf (goOf d) m P) := ⟨_, rfl⟩
   have hbl9 : bs.length = N := by rw [hbs]; simp
   have hbi : ∀ i (h : i < bs.length), bs[i] = blkOf (goOf d) m P i := fun i h => by simp [hbs]
   obtain ⟨Q, hQ⟩ : ∃ Q, Q = firstIx bs := ⟨_, rfl⟩
   have hQN : Q.length = N := by rw [hQ, firstIx_len, hbl9]
   have hnext : normL Q = partsR (goOf d) N m (r + 1) := by rw [hQ, hbs, hP]; rfl
   rw [← hP] at HO
   have HPL := Lib.hid hPl
   have HP0 := Lib.hid hP0
   have HBI := Lib.hid hbi
   have HBLN := Lib.hid hbl9
   have HQ := Lib.hid hQ
   have HQN := Lib.hid hQN
   have HNX := Lib.hid hnext
   clear hP hPl hP0 hbs hbl9 hbi hQ hQN hnext
   have hi1' := HI1.out
   go_wp2_with (at_make; refine wpList_make_full _ rfl _ _ 66 rfl wC.heap.size 2 i1 _ 1 Tryz.underlying66 hi1' hz10 hz11 .i64 .i64 _ _ N rfl rfl rfl rfl ?_ ?_ ?_ ?_)
   ·rw [hz12]; omega
   ·simp [maxLen]; omega
   ·exact Nat.le_refl _
   intro w2 ho hg
   rw [toList_madeCells_one] at ho
   obtain ⟨G2, hG2⟩ : ∃ G2, G2 = wC.heap.size := ⟨_, rfl⟩
   have hb12 : Below wC.heap.size wC w2 := (Below.refl _ wC).grown hg (Nat.le_refl _) (fun _ h => by cases h)
   have HBC2 := Lib.hid hb12
   rw [← hG2] at ho ⊢
   have HO2 : Hid (w2.ownsRow G2 2 1 (.slice (some ⟨G2, 0, none⟩) N N) N (List.replicate N (.int .i64 0))) := by
    unfold Hid; simpa using ho
   have HG2 := Lib.hid hG2
   have hGG : w.heap.size ≤ G2 := by rw [hG2]; exact hszC
   clear ho hg hG2 hb12 q0
   go_wp2
   go_loopw [6] (fun v6 wr => ∃ i : Nat, i ≤ N ∧ v6 = .int .i64 i ∧ Below G2 wC wr ∧ wr.ownsRow G2 2 1 (.slice (some ⟨G2, 0, none⟩) N N) N ((Q.take i).map (Value.int .i64) ++ List.replicate (Q.length - i) (.int .i64 0))) (fun v6 _ => N - (intOf v6).toNat)
   case atStart => exact ⟨0, Nat.zero_le _, rfl, by rw [HG2.out]; exact HBC2.out, by simpa [HQN.out] using HO2.out⟩
   case round =>
    clear HO2 HBC2
    obtain ⟨i, hi, rfl, hbi, hoi⟩ := hrel
    obtain ⟨wI, rfl⟩ : ∃ wI : World, wI = wr := ⟨_, rfl⟩
    have hbi2 : Below wC.heap.size wC wI := by rw [← HG2.out]; exact hbi
    have hbw := HBL.out.trans (hbi2.mono hszC)
    have HBI2 := Lib.hid hbi
    have HBW := Lib.hid hbw
    have HOI := Lib.hid hoi
    have q0 := keeps hbw hpl HQ0.out
    have hszI := hbw.size
    clear hbi hbi2
    by_cases hiN : i < N
    ·have hiQ : i < Q.length := by rw [HQN.out]; exact hiN
     have hib : i < bs.length := by rw [HBLN.out]; exact hiN
     have d2 := hoi.cellAt i (by omega)
     rw [filled_get _ _ _ _ hiQ] at d2
     have d3 := hoi.frozenAt i
     have ho4 := (hoi.stored i (.int .i64 (i : Int))).1
     obtain ⟨wJ, hwJ⟩ : ∃ wJ, wJ = wI.setCell ⟨G2, i, none⟩ (.int .i64 (i : Int)) := ⟨_, rfl⟩
     have hbJ : Below G2 wC wJ := by rw [hwJ]; exact HBI2.out.setCell (Nat.le_refl _) _
     have hoJ : wJ.ownsRow G2 2 1 (.slice (some ⟨G2, 0, none⟩) N N) N (((Q.take i).map (Value.int .i64) ++ List.replicate (Q.length - i) (Value.int .i64 0)).set i (Value.int .i64 (i : Int))) := by
      rw [hwJ]
      simpa using ho4
     have hbJ2 : Below wC.heap.size wC wJ := by rw [← HG2.out]; exact hbJ
     have hbJw := HBL.out.trans (hbJ2.mono hszC)
     have HBJ := Lib.hid hbJ
     have HBJW := Lib.hid hbJw
     have HOJ := Lib.hid hoJ
     have HPJ := Lib.hid (owns_below HO.out hbJ2)
     have hszJ := hbJw.size
     have HWJ := Lib.hid hwJ
     clear ho4 hwJ hbJ hbJ2 hbJw hoJ hoi hbw
     go_wp2
     try rw [← HWJ.out]
     go_loopw [7] (fun v7 wr => ∃ k : Nat, k ≤ i ∧ v7 = .int .i64 k ∧ Below wJ.heap.size wJ wr ∧ ∀ j (h : j < bs.length), j < k → bs[j] ≠ bs[i]) (fun v7 _ => i - (intOf v7).toNat)
     case atStart => exact ⟨0, Nat.zero_le _, rfl, (by first | exact Below.refl _ _ | (rw [HWJ.out]; exact Below.refl _ _)), fun _ _ h => by omega⟩
     case round =>
      obtain ⟨k, hk, rfl, hbk, hx⟩ := hrel
      obtain ⟨wK, rfl⟩ : ∃ wK : World, wK = wr := ⟨_, rfl⟩
      have HX := Lib.hid hx
      have HBK := Lib.hid hbk
      have hszk := hbk.size
      clear hx hbk q0 d2 d3
      by_cases hki : k < i
      ·have hkb : k < bs.length := by rw [HBLN.out]; omega
       go_wp2
       go_loopw [8, 9] (fun v8 v9 wr => ∃ (n : Nat) (b : Bool), 1 ≤ n ∧ n ≤ LN ∧ v9 = .int .i64 n ∧ v8 = .bool b ∧ Below wK.heap.size wK wr ∧ (b = true ↔ ∀ j, j < n - 1 → sameTo P (goOf d i j) (goOf d k j))) (fun _ v9 _ => LN - (intOf v9).toNat)
       case atStart => exact ⟨1, true, Nat.le_refl _, by omega, rfl, rfl, Below.refl _ _, ⟨fun _ j h => by omega, fun _ => by trivial⟩⟩
       case round =>
        obtain ⟨n, b, hn1, hn2, rfl, rfl, hbn, hb⟩ := hrel
        obtain ⟨wN, rfl⟩ : ∃ wN : World, wN = wr := ⟨_, rfl⟩
        have hbJN := HBK.out.trans (hbn.mono hszk)
        have hbwN := HBJW.out.trans (hbJN.mono hszJ)
        have HBN := Lib.hid hbn
        have HBJN := Lib.hid hbJN
        have HBWN := Lib.hid hbwN
        have HBB := Lib.hid hb
        have q2 := keeps hbwN hpl HQ2.out
        have hszn := hbn.size
        have hszN := hbJN.size
        have hszwN := hbwN.size
        clear hbn hb hbJN
        by_cases hnL : n < LN
        ·cases b
         ·have HNE : Hid (bs[k] ≠ bs[i]) := fun e => by
           rw [HBI.out _ hkb, HBI.out _ hib, blkOf_iff] at e
           have := HBB.out.2 fun j hj => (e j (by omega)).symm
           cases this
          go_wp2
          go_roundw
          case rel => exact ⟨k + 1, by omega, by go_num, HBJN.out, fun j h h' => by
           by_cases e : j = k
           ·subst e; exact HNE.out
           ·exact HX.out j h (by omega)⟩
          case measure => simp [intOf]; omega
         ·have hnd : n < d.labels.length := by rw [← HLN.out]; exact hnL
          obtain ⟨bl, ol, rfl, -, hblw, c1⟩ := (HLR.out.below hbwN).one hnd
          simp only [encS, List.getElem?_cons_zero] at c1
          obtain ⟨l, hl⟩ : ∃ l, l = d.labels[n] := ⟨_, rfl⟩
          rw [← hl] at c1
          have HG1 := Lib.hid (l12Go_any p lo d (i : Int) l wN HV.out.edge (HP.out.below hbwN))
          have hgi : goTo d (i : Int) l = goOf d i (n - 1) := by
           unfold goOf
           rw [show n - 1 + 1 = n from by omega, List.getD_eq_getElem?_getD, List.getElem?_eq_getElem hnd, hl]
           rfl
          have hgk : goTo d (k : Int) l = goOf d k (n - 1) := by
           unfold goOf
           rw [show n - 1 + 1 = n from by omega, List.getD_eq_getElem?_getD, List.getElem?_eq_getElem hnd, hl]
           rfl
          have hGK := fun w' (hb : Below wN.heap.size wN w') => l12Go_any p lo d (k : Int) l w' HV.out.edge (HP.out.below (hbwN.trans (hb.mono hszwN)))
          rw [hgk] at hGK
          rw [hgi] at HG1
          have HG2' := Lib.hid hGK
          obtain ⟨x, hx⟩ : ∃ x, x = goOf d i (n - 1) := ⟨_, rfl⟩
          obtain ⟨y, hy⟩ : ∃ y, y = goOf d k (n - 1) := ⟨_, rfl⟩
          have hx2 : -1 ≤ x ∧ x < (N : Int) := by rw [hx, HN.out]; exact goOf_lt HV.out _ _
          have hy2 : -1 ≤ y ∧ y < (N : Int) := by rw [hy, HN.out]; exact goOf_lt HV.out _ _
          rw [← hx] at HG1
          rw [← hy] at HG2'
          have HXX := Lib.hid hx
          have HYY := Lib.hid hy
          clear hl hgi hgk hGK hx hy hbwN
          go_wp2_with fail
          refine Calls.mono HG1.out ?_
          rintro e w3 ⟨rfl, hb3⟩
          have HB3 := Lib.hid hb3
          have HG3 := Lib.hid (HG2'.out w3 hb3)
          have q2' := keeps hb3 (Nat.lt_of_lt_of_le hpl hszwN) q2
          have c1' := keeps hb3 hblw c1
          clear q2 c1 hb3 HG1 HG2'
          go_wp2_with fail
          refine Calls.mono HG3.out ?_
          rintro e w4 ⟨rfl, hb4⟩
          have hb34 := HB3.out.trans (hb4.mono HB3.out.size)
          have HB4 := Lib.hid (HBN.out.trans (hb34.mono hszn))
          have hJ4 := HBJN.out.trans (hb34.mono hszN)
          have HP4 := Lib.hid (owns_below HPJ.out hJ4)
          have hg4 := (HP4.out.lt g rfl).2
          have hsz4 := HB4.out.size
          clear q2' c1' hb4 hb34 hJ4 HG3 HB3
          by_cases hx0 : x < 0
          ·by_cases hy0 : y < 0
           ·have HS : Hid (sameTo P (goOf d i (n - 1)) (goOf d k (n - 1))) := sameTo_both (by rw [← HXX.out]; exact hx0) (by rw [← HYY.out]; exact hy0)
            have hd1 : decide (x < 0) = true := decide_eq_true hx0
            have hd2 : decide (y < 0) = true := decide_eq_true hy0
            go_wp2
            refine wp_region_later (by kernel_rfl) (by kernel_rfl) ?_
            repeat (go_big_quiet_step ((fail)))
            refine wpQuiet_nil ?_
            intro _ hw9
            obtain ⟨nl, hw8⟩ := hw9
            subst hw8
            have HB5 := Lib.hid (HB4.out.trans (nl.h.mono hsz4))
            go_wp2
            go_roundw
            case rel => exact ⟨n + 1, true, by omega, by omega, by go_num, rfl, HB5.out, ⟨fun _ j h => by
             by_cases e : j = n - 1
             ·rw [e]; exact HS.out
             ·exact HBB.out.1 (by trivial) j (by omega), fun _ => by trivial⟩⟩
            case measure => simp [intOf]; omega
           ·have HS : Hid (¬ sameTo P (goOf d i (n - 1)) (goOf d k (n - 1))) := sameTo_left HP0.out (by rw [← HXX.out]; exact hx0) (by rw [← HYY.out]; exact hy0)
            have hge : ¬ 0 ≤ x := by omega
            have hd1 : decide (x < 0) = true := decide_eq_true hx0
            have hd2 : decide (y < 0) = false := decide_eq_false hy0
            have hd3 : decide (0 ≤ x) = false := decide_eq_false hge
            go_wp2
            refine wp_region_later (by kernel_rfl) (by kernel_rfl) ?_
            repeat (go_big_quiet_step ((fail)))
            refine wpQuiet_nil ?_
            intro _ hw9
            obtain ⟨nl, hw8⟩ := hw9
            subst hw8
            have HB5 := Lib.hid (HB4.out.trans (nl.h.mono hsz4))
            go_wp2
            go_roundw
            case rel => exact ⟨n + 1, false, by omega, by omega, by go_num, rfl, HB5.out, ⟨(fun h => by cases h), fun h => absurd (h (n - 1) (by omega)) HS.out⟩⟩
            case measure => simp [intOf]; omega
          ·by_cases hy0 : y < 0
           ·have HS : Hid (¬ sameTo P (goOf d i (n - 1)) (goOf d k (n - 1))) := sameTo_right HP0.out (by rw [← HXX.out]; exact hx0) (by rw [← HYY.out]; exact hy0)
            have hge : 0 ≤ x := by omega
            have hge2 : ¬ 0 ≤ y := by omega
            have hd1 : decide (x < 0) = false := decide_eq_false hx0
            have hd2 : decide (0 ≤ x) = true := decide_eq_true hge
            have hd3 : decide (0 ≤ y) = false := decide_eq_false hge2
            go_wp2
            refine wp_region_later (by kernel_rfl) (by kernel_rfl) ?_
            repeat (go_big_quiet_step ((fail)))
            refine wpQuiet_nil ?_
            intro _ hw9
            obtain ⟨nl, hw8⟩ := hw9
            subst hw8
            have HB5 := Lib.hid (HB4.out.trans (nl.h.mono hsz4))
            go_wp2
            go_roundw
            case rel => exact ⟨n + 1, false, by omega, by omega, by go_num, rfl, HB5.out, ⟨(fun h => by cases h), fun h => absurd (h (n - 1) (by omega)) HS.out⟩⟩
            case measure => simp [intOf]; omega
           ·obtain ⟨xn, hxn⟩ : ∃ xn : Nat, (xn : Int) = x := ⟨x.toNat, by omega⟩
            obtain ⟨yn, hyn⟩ : ∃ yn : Nat, (yn : Int) = y := ⟨y.toNat, by omega⟩
            have hxN : xn < N := by omega
            have hyN : yn < N := by omega
            have hxP : xn < P.length := by rw [HPL.out]; exact hxN
            have hyP : yn < P.length := by rw [HPL.out]; exact hyN
            have e1 := HP4.out.cellAt xn (by omega)
            have e2 := HP4.out.cellAt yn (by omega)
            rw [List.getElem?_map, List.getElem?_eq_getElem hxP] at e1
            rw [List.getElem?_map, List.getElem?_eq_getElem hyP] at e2
            simp only [Option.map_some] at e1 e2
            obtain ⟨px, hpx⟩ : ∃ px, px = P[xn] := ⟨_, rfl⟩
            obtain ⟨py, hpy⟩ : ∃ py, py = P[yn] := ⟨_, rfl⟩
            rw [← hpx] at e1
            rw [← hpy] at e2
            replace e1 := later_cell hg4 e1
            replace e2 := later_cell hg4 e2
            have HS : Hid (sameTo P (goOf d i (n - 1)) (goOf d k (n - 1)) ↔ px = py) := by
             unfold Hid
             rw [← HXX.out, ← HYY.out, sameTo_some hx0 hy0, ← hxn, ← hyn, Int.toNat_natCast, Int.toNat_natCast, getD_eq hxP, getD_eq hyP, hpx, hpy]
            rw [← hxn, ← hyn]
            have hge : 0 ≤ (xn : Int) := by omega
            have hge2 : 0 ≤ (yn : Int) := by omega
            have hnl1 : ¬ (xn : Int) < 0 := by omega
            have hnl2 : ¬ (yn : Int) < 0 := by omega
            have hd1 : decide ((xn : Int) < 0) = false := decide_eq_false hnl1
            have hd2 : decide (0 ≤ (xn : Int)) = true := decide_eq_true hge
            have hd3 : decide (0 ≤ (yn : Int)) = true := decide_eq_true hge2
            clear hpx hpy hxn hyn hx0 hy0 hx2 hy2 HXX HYY
            cases g9 : (px == py)
            ·have HS2 : Hid (¬ px = py) := by rw [beq_eq_false_iff_ne] at g9; exact g9
             go_wp2
             refine wp_region_later (by kernel_rfl) (by kernel_rfl) ?_
             repeat (go_big_quiet_step ((fail)))
             refine wpQuiet_nil ?_
             intro _ hw9
             obtain ⟨nl, hw8⟩ := hw9
             subst hw8
             have HB5 := Lib.hid (HB4.out.trans (nl.h.mono hsz4))
             go_wp2
             go_roundw
             case rel => exact ⟨n + 1, false, by omega, by omega, by go_num, rfl, HB5.out, ⟨(fun h => by cases h), fun h => absurd (HS.out.1 (h (n - 1) (by omega))) HS2.out⟩⟩
             case measure => simp [intOf]; omega
            ·have HS2 : Hid (px = py) := by rw [beq_iff_eq] at g9; exact g9
             go_wp2
             refine wp_region_later (by kernel_rfl) (by kernel_rfl) ?_
             repeat (go_big_quiet_step ((fail)))
             refine wpQuiet_nil ?_
             intro _ hw9
             obtain ⟨nl, hw8⟩ := hw9
             subst hw8
             have HB5 := Lib.hid (HB4.out.trans (nl.h.mono hsz4))
             go_wp2
             go_roundw
             case rel => exact ⟨n + 1, true, by omega, by omega, by go_num, rfl, HB5.out, ⟨fun _ j h => by
              by_cases e : j = n - 1
              ·rw [e]; exact HS.out.2 HS2.out
              ·exact HBB.out.1 (by trivial) j (by omega), fun _ => by trivial⟩⟩
             case measure => simp [intOf]; omega
        ·obtain rfl : n = LN := by omega
         clear hbwN
         cases b
         ·have HNE : Hid (bs[k] ≠ bs[i]) := fun e => by
           rw [HBI.out _ hkb, HBI.out _ hib, blkOf_iff] at e
           have := HBB.out.2 fun j hj => (e j (by omega)).symm
           cases this
          go_wp2
          go_roundw
          case rel => exact ⟨k + 1, by omega, by go_num, HBJN.out, fun j h h' => by
           by_cases e : j = k
           ·subst e; exact HNE.out
           ·exact HX.out j h (by omega)⟩
          case measure => simp [intOf]; omega
         ·have hEQ : bs[k] = bs[i] := by
           rw [HBI.out _ hkb, HBI.out _ hib, blkOf_iff]
           exact fun j hj => (HBB.out.1 (by trivial) j (by omega)).symm
          have hkQ : k < Q.length := by rw [HQN.out]; omega
          have hQki : Q[k] = Q[i] := by
           have h := (firstIx_pat (l := bs) hkb hib).2 hEQ
           simp only [← HQ.out] at h
           exact h
          have hoN := owns_below HOJ.out HBJN.out
          have d1 := hoN.cellAt k (by omega)
          rw [List.getElem?_set_ne (by omega), filled_old _ _ _ _ _ (by omega) hki, hQki] at d1
          have d2 := hoN.cellAt i (by omega)
          rw [List.getElem?_set_self (by simp; omega)] at d2
          have d3 := hoN.frozenAt i
          have ho5 := (hoN.stored i (.int .i64 Q[i])).1
          rw [List.set_set, filled_set Q (Value.int .i64) (.int .i64 0) i hiQ] at ho5
          have HO5 := Lib.hid ho5
          have hG2N := (hoN.lt G2 rfl).2
          have HBE : Hid (Below G2 wC wN) := HBJ.out.trans (HBJN.out.mono (by have := (HOJ.out.lt G2 rfl).2; omega))
          clear hEQ hkQ hQki hoN ho5
          go_wp2
          go_roundw
          case rel => exact ⟨i + 1, by omega, by go_num, HBE.out.setCell (Nat.le_refl _) _, HO5.out⟩
          case measure => simp [intOf]; omega
      ·obtain rfl : k = i := by omega
       have HQI : Hid (Q[k] = (k : Int)) := by
        have h := firstIx_at (l := bs) hib
        rw [← HQ.out, List.getElem?_eq_getElem hiQ] at h
        have h2 : fstIx bs bs[k] = k := fstIx_eq (List.getElem?_eq_getElem hib) fun j hj e => by
         have hjb : j < bs.length := by omega
         rw [List.getElem?_eq_getElem hjb] at e
         exact HX.out j hjb hj (Option.some.inj e)
        rw [h2] at h
        exact Option.some.inj h
       have HO5 : Hid (wK.ownsRow G2 2 1 (.slice (some ⟨G2, 0, none⟩) N N) N ((Q.take (k + 1)).map (Value.int .i64) ++ List.replicate (Q.length - (k + 1)) (.int .i64 0))) := by
        have h := owns_below HOJ.out HBK.out
        rw [← HQI.out, filled_set Q (Value.int .i64) (.int .i64 0) k hiQ] at h
        exact h
       have HBE : Hid (Below G2 wC wK) := HBJ.out.trans (HBK.out.mono (by have := (HOJ.out.lt G2 rfl).2; omega))
       go_wp2
       go_roundw
       case rel => exact ⟨k + 1, by omega, by go_num, HBE.out, HO5.out⟩
       case measure => simp [intOf]; omega
    ·obtain rfl : i = N := by omega
     have hof : wI.ownsRow G2 2 1 (.slice (some ⟨G2, 0, none⟩) i i) Q.length (Q.map (Value.int .i64)) := by
      have h := hoi
      rw [← HQN.out] at h ⊢
      simpa using h
     have HNM := Lib.hid (l02Norm_any G2 (.slice (some ⟨G2, 0, none⟩) i i) Q wI (by rw [HQN.out]; omega) (SliceK.of_owns (enc := encI) encI_len HQN.out.symm (by rw [flat_encI]; rw [HQN.out] at hof; exact hof)))
     rw [HNX.out] at HNM
     clear hoi hof hbw
     go_wp2_with fail
     refine Calls.mono HNM.out ?_
     rintro e w5 ⟨v5, rfl, hb5, ho5⟩
     rw [partsR_len] at ho5
     obtain ⟨g5, c5, rfl, hg5, -⟩ := own_someC ho5 (by omega)
     have HB5 := Lib.hid (HBW.out.trans (hb5.mono hszI))
     have HO5 : Hid (w5.ownsRow G 2 1 (.slice (some ⟨g5, 0, none⟩) i c5) i ((partsR (goOf d) i m (r + 1)).map (Value.int .i64))) := own_lower ho5 (by rw [HG.out]; exact hszI)
     clear hb5 ho5 HNM q0
     go_wp2
     go_roundw
     case rel => exact ⟨r + 1, g5, c5, by omega, by go_num, rfl, HB5.out, HO5.out⟩
     case measure => simp [intOf]; omega
  ·obtain rfl : r = N := by omega
   go_wp2
   go_ret
   refine ⟨_, rfl, HBL.out, ?_⟩
   rw [partsR_len, ← HG.out]
   exact HO.out

end Go.Proofs.YtaabkeejbhdenaaGreatDoor
