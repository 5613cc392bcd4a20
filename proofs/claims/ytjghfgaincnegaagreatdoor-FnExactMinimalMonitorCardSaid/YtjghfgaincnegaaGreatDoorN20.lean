/-
  The reference's l30Minimal: the search over the blocks, with the verdicts.
-/
import Derived.Test.YtjghfgaincnegaaGreatDoorN19
import Derived.Test.YtjghfgaincnegaaGreatDoorN17
import Derived.Test.YtjghfgaincnegaaGreatDoorN12
import Derived.Deep.AppendLies
import Derived.Deep.RegionHeld3
namespace Go.Proofs.YtjghfgaincnegaaGreatDoor
open Go Go.RowKit

theorem svi_results {w : World} {b : Nat} {v0 v1 v2 v3 v4 : Value} {tmps : Array Value} (hc : tmps.getD 2 undef = .pointer (some ⟨b, 0, none⟩)) (hb : Blk w b [v0, v1, v2, v3, v4] 34) :
  (results Tryz.f20 tmps).run Tryz.prog w = .ok (.agg #[v0, v1, v2, v3, v4]) w := by
 have h0 := hb.cell 0 rfl
 have h1 := hb.cell 1 rfl
 have h2 := hb.cell 2 rfl
 have h3 := hb.cell 3 rfl
 have h4 := hb.cell 4 rfl
 simp only [Array.getD_eq_getD_getElem?] at hc
 simp [results, Tryz.results20, go_sem, hc, h0, h1, h2, h3, h4, Result.andThen]

set_option maxRecDepth 100000 in
set_option maxHeartbeats 8000000 in
theorem l30Minimal_any (p lo : Nat) (mo : Mon) (w : World) (hok : MonOk mo) (hmp : MonPtr lo w p mo) :
  Calls Tryz.prog 20 #[.pointer (some ⟨p, 0, none⟩)] w fun e w' => Below w.heap.size w w' ∧ ∃ st r lv ev vv, e = .returned (.agg #[.int .i64 r.states, .int .i64 r.initial, lv, ev, vv]) ∧ MinV mo.sys mo.vs st r ∧ OwnLts w.heap.size w' lv ev r ∧ w'.ownsRow w.heap.size 2 1 vv st.rows.length ((st.rows.map (bkOf mo.vs)).map (Value.int .i64)) := by
 have hv := hok.valid
 have hs := hok.single
 have hVL := hok.len
 have hu := valid_up hv hs
 have HMP := Lib.hid hmp
 obtain ⟨hp, vvm, q4, hvs⟩ := hmp
 have HCLA := Lib.hid (fun w' (hb : Below w.heap.size w w') => l30Classes_any p lo mo w' hv hVL (HMP.out.below hb))
 obtain ⟨d, hd⟩ : ∃ d, d = mo.sys := ⟨_, rfl⟩
 obtain ⟨V, hVE⟩ : ∃ V, V = mo.vs := ⟨_, rfl⟩
 rw [← hd, ← hVE] at HCLA
 rw [← hd] at hv hs hu hp hVL ⊢
 rw [← hVE] at hVL hvs ⊢
 clear hok hd hVE HMP
 have HV := Lib.hid hv
 have HSI := Lib.hid hs
 have HU := Lib.hid hu
 have hst0 := hv.st0
 have hst1 := hv.st1
 have hlp := hv.labels.pos
 have hl12 := hv.labels.most
 obtain ⟨rb, hrb⟩ : ∃ rb, rb = w.heap.size := ⟨_, rfl⟩
 obtain ⟨wA, hwA⟩ : ∃ wA, wA = w.alloc (.cells #[.int .i64 0, .int .i64 0, .slice none 0 0, .slice none 0 0, .slice none 0 0] 34) := ⟨_, rfl⟩
 have hbA : Below w.heap.size w wA := by rw [hwA]; exact (Below.refl _ _).alloc (Nat.le_refl _) _
 have hR : Blk wA rb [.int .i64 0, .int .i64 0, .slice none 0 0, .slice none 0 0, .slice none 0 0] 34 := by rw [hwA, hrb]; exact Blk.new w _ _
 have hsA : wA.heap.size = rb + 1 := by rw [hwA, hrb]; simp
 have HCL := Lib.hid (HCLA.out wA hbA)
 have HP := Lib.hid hp
 obtain ⟨lv, ev, hpl, -, q1, q2, -, hl, -⟩ := hp
 obtain ⟨am, cm, rfl, hmn, hmc, hmrow⟩ := hvs
 obtain ⟨al, cl, rfl, hln, hlc, hlrow⟩ := hl
 obtain ⟨LN, hLN⟩ : ∃ LN, LN = d.labels.length := ⟨_, rfl⟩
 rw [← hLN] at hln q2 hlp hl12
 have HQ2 := Lib.hid q2
 have HLR := Lib.hid hlrow
 have HLN := Lib.hid hLN
 obtain ⟨P, hP⟩ : ∃ P, P = restV d V := ⟨_, rfl⟩
 have hP40 : ∀ x ∈ P, 0 ≤ x ∧ x < (40 : Int) := by rw [hP]; exact restV_low hv hVL
 obtain ⟨N, hN⟩ : ∃ N : Nat, (N : Int) = d.states := ⟨d.states.toNat, by omega⟩
 have hPl : P.length = N := by have := restV_len hv hVL; rw [← hP] at this; omega
 rw [← hP] at HCL
 have hVN : V.length = N := by omega
 obtain ⟨I, hI⟩ : ∃ I : Nat, (I : Int) = d.initial := ⟨d.initial.toNat, by have := hv.in0; omega⟩
 have hIN : I < N := by have := hv.in1; omega
 rw [← hI] at q1
 rw [hVN] at q4 hmn
 have HIE := Lib.hid hI
 have HQ1 := Lib.hid q1
 have HQ4 := Lib.hid q4
 have HMR := Lib.hid hmrow
 have HVN := Lib.hid hVN
 rw [← hN] at hst0 hst1
 have HPE := Lib.hid hP
 have HP40 := Lib.hid hP40
 have HN := Lib.hid hN
 have HPL := Lib.hid hPl
 have HR := Lib.hid hR
 have HBA := Lib.hid hbA
 have HWA := Lib.hid hwA
 have HRB := Lib.hid hrb
 have HSA := Lib.hid hsA
 obtain ⟨i1, hi1, hz10, hz11, hz12⟩ := info_parts info_int64M
 obtain ⟨i2, hi2, hz20, hz21, hz22⟩ := info_parts info_edgeM
 clear HCLA hVL hI q1 q4 hmrow hVN hv hs hu hrb hwA hbA hR hsA q2 hlrow hLN hP hP40 hN hPl
 go_enter Tryz.func20, Tryz.ntmps20
 go_wp2_with fail
 rw [← HWA.out]
 try rw [← HRB.out]
 refine Calls.mono HCL.out ?_
 rintro e w2 ⟨vP, rfl, hb2, hoP⟩
 rw [HPL.out, HSA.out] at hoP
 obtain ⟨gP, cP, rfl, hgP, hgPw⟩ := own_someC hoP (by omega)
 obtain ⟨B, hB⟩ : ∃ B, B = rb + 1 := ⟨_, rfl⟩
 rw [← hB] at hoP hgP
 have hb2B : Below B wA w2 := by rw [hB, ← HSA.out]; exact hb2
 have hs2 : B ≤ w2.heap.size := by have := hb2.size; have := HSA.out; omega
 have HB := Lib.hid hB
 have HOP := Lib.hid hoP
 have HB2 := Lib.hid hb2B
 have cP0 := hoP.cellAt I (by omega)
 have h0P : I < P.length := by rw [HPL.out]; omega
 have hbw2 := HBA.out.trans (hb2.mono HBA.out.size)
 have q1 := keeps hbw2 hpl HQ1.out
 have hpl2 : p < w2.heap.size := Nat.lt_of_lt_of_le hpl hbw2.size
 have hww2 : w.heap.size ≤ w2.heap.size := hbw2.size
 clear hbw2
 rw [List.getElem?_map, List.getElem?_eq_getElem h0P] at cP0
 obtain ⟨z0, hz0⟩ : ∃ z0, z0 = P[I] := ⟨_, rfl⟩
 have hzb : bkOf P (I : Int) = z0 := by unfold bkOf; rw [hz0, Int.toNat_natCast]; exact getD_eq h0P
 rw [← hz0] at cP0
 simp only [Option.map_some] at cP0
 obtain ⟨G, hG⟩ : ∃ G, G = w2.heap.size := ⟨_, rfl⟩
 obtain ⟨W, hW⟩ : ∃ W, W = (((w2.alloc (.cells #[.int .i64 z0] 2)).alloc (.cells #[.int .i64 I] 2)).alloc (.cells #[] 78)).alloc (.cells #[.int .i64 0, .int .i64 0, .slice none 0 0, .slice none 0 0, .slice none 0 0] 34) := ⟨_, rfl⟩
 have hbW : Below w2.heap.size w2 W := by rw [hW]; exact ((((Below.refl _ _).alloc (Nat.le_refl _) _).alloc (by simp) _).alloc (by simp; omega) _).alloc (by simp; omega) _
 have HMM : Hid (MMem G W (.slice (some ⟨G, 0, none⟩) 1 1) (.slice (some ⟨G + 1, 0, none⟩) 1 1) (.slice (some ⟨G + 1 + 1, 0, none⟩) 0 0) P ⟨[(I : Int)], []⟩) := by
  have r1 := World.ownsRow_lit (base := w2.heap.size) (e := 2) (size := 1) w2 #[.int .i64 z0] 1 (Nat.le_refl _) (by decide) rfl
  have r2 := World.ownsRow_lit (base := w2.heap.size) (e := 2) (size := 1) (w2.alloc (.cells #[.int .i64 z0] 2)) #[.int .i64 I] 1 (by first | (simp; done) | (simp; omega)) (by decide) rfl
  have r3 := World.ownsRow_lit (base := w2.heap.size) (e := 78) (size := 3) ((w2.alloc (.cells #[.int .i64 z0] 2)).alloc (.cells #[.int .i64 I] 2)) #[] 0 (by first | (simp; done) | (simp; omega)) (by simp [maxLen]) rfl
  simp only [World.size_alloc] at r2 r3
  unfold Hid
  rw [hW, hG]
  refine ⟨⟨?_, ((r2.alloc _).alloc _), World.ownsRow_nil _ _ _ _, World.ownsRow_nil _ _ _ _, by simp [Value.ownBlock], by simp [Value.ownBlock]⟩, r3.alloc _⟩
  show World.ownsRow _ w2.heap.size 2 1 _ [bkOf P (I : Int)].length ([bkOf P (I : Int)].map (Value.int .i64))
  rw [hzb]
  exact ((r1.alloc _).alloc _).alloc _
 obtain ⟨ob, hob⟩ : ∃ ob, ob = G + 1 + 1 + 1 := ⟨_, rfl⟩
 have HVD : Hid (VD G ob W (.slice (some ⟨G, 0, none⟩) 1 1) (.slice (some ⟨G + 1, 0, none⟩) 1 1) (.slice none 0 0) [.int .i64 0, .int .i64 0, .slice none 0 0, .slice none 0 0, .slice none 0 0] []) := by
  have r4 := Blk.new (((w2.alloc (.cells #[.int .i64 z0] 2)).alloc (.cells #[.int .i64 I] 2)).alloc (.cells #[] 78)) [.int .i64 0, .int .i64 0, .slice none 0 0, .slice none 0 0, .slice none 0 0] 34
  rw [World.size_alloc, World.size_alloc, World.size_alloc, ← hG] at r4
  unfold Hid
  rw [hW, hob]
  exact ⟨World.ownsRow_nil _ _ _ _, FarB.none _ _ _, FarB.none _ _ _, r4⟩
 have hGob : G ≤ ob := by omega
 have HOB := Lib.hid hob
 have HBW : Hid (Below B wA W) := hb2B.trans (hbW.mono hs2)
 have hsW : B ≤ W.heap.size := by have := HBW.out.size; have := HSA.out; have := HB.out; omega
 have HOPW := Lib.hid (owns_below hoP hbW)
 have HWW := Lib.hid hW
 have HGG := Lib.hid hG
 have hgPW : gP < W.heap.size := by have := hbW.size; omega
 have hgPG : gP < G := by rw [hG]; exact hgPw
 have hBG : B ≤ G := by rw [hG]; exact hs2
 clear hb2 hb2B hoP hz0 hzb hW hG hbW hB h0P hob
 go_wp2
 rw [← HWW.out]
 try rw [← HGG.out]
 try rw [← HOB.out]
 clear q1
 go_loopw [5, 6, 7, 9] (fun v4 v5 v6 v7 wr => ∃ (i : Nat) (vv : Value), v7 = .int .i64 i ∧ VD G ob wr v4 v5 vv [.int .i64 0, .int .i64 0, .slice none 0 0, .slice none 0 0, vv] (((vAt d P i).rows.take i).map (bkOf V)) ∧ i ≤ (vAt d P i).rows.length ∧ Below B wA wr ∧ wr.ownsRow B 2 1 (.slice (some ⟨gP, 0, none⟩) N cP) N (P.map (Value.int .i64)) ∧ MMem G wr v4 v5 v6 P (vAt d P i)) (fun _ _ _ v7 _ => 64 - (intOf v7).toNat)
 case atStart => exact ⟨0, _, rfl, HVD.out, Nat.zero_le _, HBW.out, HOPW.out, by rw [show vAt d P 0 = ⟨[(I : Int)], []⟩ from by rw [HIE.out]; rfl]; exact HMM.out⟩
 case round =>
  clear HMM HOPW HBW cP0 HVD
  obtain ⟨i, vv, rfl, hvd, hi, hbl, hop, hmm⟩ := hrel
  obtain ⟨wC, rfl⟩ : ∃ wC : World, wC = wr := ⟨_, rfl⟩
  obtain ⟨S0, hS0⟩ : ∃ S0, S0 = vAt d P i := ⟨_, rfl⟩
  rw [← hS0] at hi hmm hvd
  have hG0 : MGood d P S0 := by rw [hS0]; exact MGood.vat HV.out HSI.out i
  have hE0 : S0.edges.length ≤ i * 11 := by rw [hS0]; exact vAt_edges11 HV.out HSI.out HU.out i
  have hR40 := hG0.few HP40.out
  obtain ⟨R, hR⟩ : ∃ R, R = S0.rows.length := ⟨_, rfl⟩
  have hlo : (S0.rows.map (bkOf P)).length = R := by rw [List.length_map, hR]
  obtain ⟨ga, ca, rfl, -, -⟩ := owns_slice hmm.od.left
  rw [hlo]
  rw [hlo] at hmm
  have HVD := Lib.hid hvd
  have HS0 := Lib.hid hS0
  have HG0 := Lib.hid hG0
  have HMM := Lib.hid hmm
  have HBL := Lib.hid hbl
  have HOP1 := Lib.hid hop
  have HR9 := Lib.hid hR
  rw [← hR] at hi hR40
  have hszC : B ≤ wC.heap.size := by have := hbl.size; have := HSA.out; have := HB.out; omega
  by_cases hlt : i < R
  ·have hir : i < S0.rows.length := by omega
   obtain ⟨x, hx⟩ : ∃ x, x = S0.rows[i] := ⟨_, rfl⟩
   have hxl := hG0.low x (by rw [hx]; exact List.getElem_mem _)
   have HXX : Hid (S0.rows[i]? = some x) := by unfold Hid; rw [List.getElem?_eq_getElem hir, hx]
   have hx0 : 0 ≤ x := hxl.1
   have HT1 : Hid (outTo d x 1 = []) := outTo_one fun e he => by
    obtain ⟨j, hj, rfl⟩ := List.mem_iff_getElem.1 he
    have := HV.out.edge j hj
    have := HSI.out.visible j hj
    have h9 := (HV.out.edge j hj).l0
    omega
   have hxN : x < (N : Int) := by rw [HN.out]; exact hxl.2
   obtain ⟨xn, hxn⟩ : ∃ xn : Nat, (xn : Int) = x := ⟨x.toNat, by omega⟩
   have hxnN : xn < N := by omega
   obtain ⟨XS, hXS⟩ : ∃ XS, XS = (S0.rows.take (i + 1)).map (bkOf V) := ⟨_, rfl⟩
   obtain ⟨vy, hvy⟩ : ∃ vy, vy = bkOf V x := ⟨_, rfl⟩
   have hXS2 : XS = (S0.rows.take i).map (bkOf V) ++ [vy] := by
    rw [hXS, hvy, hx, List.take_add_one, List.getElem?_eq_getElem hir, List.map_append]
    rfl
   have hXl : ((S0.rows.take i).map (bkOf V)).length = i := by rw [List.length_map, List.length_take]; omega
   have hvyV : vy = V[xn]'(by rw [HVN.out]; exact hxnN) := by
    rw [hvy]
    unfold bkOf
    rw [← hxn, Int.toNat_natCast]
    exact getD_eq (by rw [HVN.out]; exact hxnN)
   have hbw : Below w.heap.size w wC := HBA.out.trans (hbl.mono (by have := HB.out; have := HRB.out; omega))
   obtain ⟨bv, ov, rfl, -, hbvw, cv⟩ := HMR.out.one (i := xn) (by rw [HVN.out]; exact hxnN)
   simp only [encI, List.getElem?_cons_zero] at cv
   rw [← hvyV] at cv
   replace cv := keeps hbw hbvw cv
   have hbv : bv < wC.heap.size := Nat.lt_of_lt_of_le hbvw hbw.size
   have q4 := keeps hbw hpl HQ4.out
   have hplC : p < wC.heap.size := by have := hbw.size; omega
   obtain ⟨gb, cb, e1, hgb, hgbw⟩ := own_someC hmm.od.right (show 0 < S0.rows.length by omega)
   subst e1
   have cx := cell_num (n := S0.rows.length) hmm.od.right hir
   have hxi : S0.rows.getD i 0 = x := by rw [List.getD_eq_getElem?_getD, List.getElem?_eq_getElem hir, hx]; rfl
   rw [hxi, ← hxn] at cx
   rw [← hR] at hmm ⊢
   have hvd2 := HVD.out
   rw [hlo, ← hR] at hvd2
   have HVD2 := Lib.hid hvd2
   clear hvd2
   have cob := HVD.out.blk.cell 4 rfl
   have hobw := HVD.out.blk.lt
   have hgbob : gb ≠ ob := fun e => by
    have h := blk_own_ne' HVD.out.blk hmm.od.right (by decide)
    exact h (by simp [Value.ownBlock, e])
   have hpob : p ≠ ob := by have := hbw.size; have := HOB.out; have := HGG.out; omega
   have hbvob : bv ≠ ob := by have := HOB.out; have := HGG.out; omega
   have HVROW : Hid (wC.ownsRow G 2 1 vv i (((S0.rows.take i).map (bkOf V)).map (Value.int .i64))) := by
    have h := HVD.out.row
    rw [hXl] at h
    exact h
   have hne4 : some ob ≠ vv.ownBlock := blk_own_ne' HVD.out.blk HVROW.out (by decide)
   have hne1 : some p ≠ vv.ownBlock := fun e => by have := (HVROW.out.lt p e.symm).1; have := HGG.out; omega
   have hne2 : some bv ≠ vv.ownBlock := fun e => by have := (HVROW.out.lt bv e.symm).1; have := HGG.out; omega
   have hne3 : some gb ≠ vv.ownBlock := fun e => HVD.out.f2 gb e.symm rfl
   have hfz := HVD.out.blk.frozen 4
   have HXN := Lib.hid hxn
   have HXS := Lib.hid hXS
   have HXS2 := Lib.hid hXS2
   have HXL := Lib.hid hXl
   have HCX := Lib.hid cx
   have HCV := Lib.hid cv
   have HQ4C := Lib.hid q4
   have HCOB := Lib.hid cob
   have HFZ := Lib.hid hfz
   have HNE := Lib.hid (And.intro hne1 (And.intro hne2 (And.intro hne3 hne4)))
   have HMM2 := Lib.hid hmm
   have hGC : G ≤ wC.heap.size := by omega
   have hAD : Below wC.heap.size wC ((wC.alloc (.cells #[.int .i64 vy] 2)).drew) := ((Below.refl _ _).alloc (Nat.le_refl _) _).drew
   have HAD := Lib.hid hAD
   clear hS0 hG0 hmm hbl hop hR hx hxl hir hXS hXS2 hXl hvy hvyV hbw hxi hxn hvd HMM hne1 hne2 hne3 hne4 hfz hAD
   go_wp2
   refine wp_region_noPanic ?_
   refine wp_region_held_drew (S := fun w' => w'.cell? ⟨p, 4, none⟩ = some (.slice (some ⟨bv, ov, none⟩) N cm) ∧ w'.cell? ⟨gb, i, none⟩ = some (.int .i64 xn) ∧ w'.cell? ⟨bv, ov + xn, none⟩ = some (.int .i64 vy)) (by kernel_rfl) ?hS (fun hHeld => ?goon)
   case hS =>
    try dsimp only
    first
         | exact ⟨HQ4C.out, HCX.out, HCV.out⟩
         | exact hS5
         | (refine ⟨?_, ?_, ?_⟩ <;> (rw [cell_setV (by first | exact hpob | exact hgbob | exact hbvob)]; first | exact hS5.1 | exact hS5.2.1 | exact hS5.2.2))
         | go_keep
   case goon =>
    refine wpAnyH_take (i := 0) (oi := ?oi1) (v := ?v1) ?ho1 ?ka1 ?kb1 ?kc1 (fun _ _ _ h => h) (Or.inl ⟨?wn1, ?hy1⟩) (by assumption) ?rest1
    case ho1 => (simp only [List.getElem?_toArray, List.getElem?_cons_zero]; rfl)
    case ka1 => kernel_rfl
    case kb1 => kernel_rfl
    case kc1 => kernel_rfl
    case wn1 => rfl
    case hy1 => (intro w hSw; (try dsimp only at hSw); first | (go_simp; done) | (go_simp; with_reducible rfl))
    case rest1 =>
     try simp only [Act.put, List.setIfInBounds_toArray, List.set_cons_zero, List.set_cons_succ]
     refine wpAnyH_take (i := 2) (oi := ?oi2) (v := ?v2) ?ho2 ?ka2 ?kb2 ?kc2 (fun _ _ _ h => h) (Or.inl ⟨?wn2, ?hy2⟩) (by assumption) ?rest2
     case ho2 => (simp only [List.getElem?_toArray, List.getElem?_cons_succ, List.getElem?_cons_zero]; rfl)
     case ka2 => kernel_rfl
     case kb2 => kernel_rfl
     case kc2 => kernel_rfl
     case wn2 => rfl
     case hy2 => (intro w hSw; (try dsimp only at hSw); first | (go_simp; done) | (go_simp; with_reducible rfl))
     case rest2 =>
      try simp only [Act.put, List.setIfInBounds_toArray, List.set_cons_zero, List.set_cons_succ]
      refine wpAnyH_take (i := 3) (oi := ?oi3) (v := ?v3) ?ho3 ?ka3 ?kb3 ?kc3 (fun _ _ _ h => h) (Or.inl ⟨?wn3, ?hy3⟩) (by assumption) ?rest3
      case ho3 => (simp only [List.getElem?_toArray, List.getElem?_cons_succ, List.getElem?_cons_zero]; rfl)
      case ka3 => kernel_rfl
      case kb3 => kernel_rfl
      case kc3 => kernel_rfl
      case wn3 => rfl
      case hy3 => (intro w hSw; (try dsimp only at hSw); first | (go_simp; done) | (go_simp; with_reducible rfl))
      case rest3 =>
       try simp only [Act.put, List.setIfInBounds_toArray, List.set_cons_zero, List.set_cons_succ]
       refine wpAnyH_take (i := 4) (oi := ?oi4) (v := ?v4) ?ho4 ?ka4 ?kb4 ?kc4 (fun _ _ _ h => h) (Or.inl ⟨?wn4, ?hy4⟩) (by assumption) ?rest4
       case ho4 => (simp only [List.getElem?_toArray, List.getElem?_cons_succ, List.getElem?_cons_zero]; rfl)
       case ka4 => kernel_rfl
       case kb4 => kernel_rfl
       case kc4 => kernel_rfl
       case wn4 => rfl
       case hy4 => (intro w hSw; (try dsimp only at hSw); first | (go_simp; done) | (go_simp; with_reducible rfl))
       case rest4 =>
        try simp only [Act.put, List.setIfInBounds_toArray, List.set_cons_zero, List.set_cons_succ]
        refine wpAnyH_take (i := 5) (oi := ?oi5) (v := ?v5) ?ho5 ?ka5 ?kb5 ?kc5 (fun _ _ _ h => h) (Or.inl ⟨?wn5, ?hy5⟩) (by assumption) ?rest5
        case ho5 => (simp only [List.getElem?_toArray, List.getElem?_cons_succ, List.getElem?_cons_zero]; rfl)
        case ka5 => kernel_rfl
        case kb5 => kernel_rfl
        case kc5 => kernel_rfl
        case wn5 => rfl
        case hy5 => (intro w hSw; (try dsimp only at hSw); first | (go_simp; done) | (go_simp; with_reducible rfl))
        case rest5 =>
         try simp only [Act.put, List.setIfInBounds_toArray, List.set_cons_zero, List.set_cons_succ]
         refine wpAnyH_take (i := 6) (oi := ?oi6) (v := ?v6) ?ho6 ?ka6 ?kb6 ?kc6 (fun _ _ _ h => h) (Or.inl ⟨?wn6, ?hy6⟩) (by assumption) ?rest6
         case ho6 => (simp only [List.getElem?_toArray, List.getElem?_cons_succ, List.getElem?_cons_zero]; rfl)
         case ka6 => kernel_rfl
         case kb6 => kernel_rfl
         case kc6 => kernel_rfl
         case wn6 => rfl
         case hy6 => (intro w hSw; (try dsimp only at hSw); first | (go_simp; done) | (go_simp; with_reducible rfl))
         case rest6 =>
          try simp only [Act.put, List.setIfInBounds_toArray, List.set_cons_zero, List.set_cons_succ]
          refine wpAnyH_take (i := 7) (oi := ?oi7) (v := ?v7) ?ho7 ?ka7 ?kb7 ?kc7 (fun _ _ _ h => h) (Or.inl ⟨?wn7, ?hy7⟩) (by assumption) ?rest7
          case ho7 => (simp only [List.getElem?_toArray, List.getElem?_cons_succ, List.getElem?_cons_zero]; rfl)
          case ka7 => kernel_rfl
          case kb7 => kernel_rfl
          case kc7 => kernel_rfl
          case wn7 => rfl
          case hy7 => (intro w hSw; (try dsimp only at hSw); first | (go_simp; done) | (go_simp; with_reducible rfl))
          case rest7 =>
           try simp only [Act.put, List.setIfInBounds_toArray, List.set_cons_zero, List.set_cons_succ]
           refine wpAnyH_take (i := 8) (oi := ?oi8) (v := ?v8) ?ho8 ?ka8 ?kb8 ?kc8 (fun _ _ _ h => h) (Or.inl ⟨?wn8, ?hy8⟩) (by assumption) ?rest8
           case ho8 => (simp only [List.getElem?_toArray, List.getElem?_cons_succ, List.getElem?_cons_zero]; rfl)
           case ka8 => kernel_rfl
           case kb8 => kernel_rfl
           case kc8 => kernel_rfl
           case wn8 => rfl
           case hy8 => (intro w hSw; (try dsimp only at hSw); first | (go_simp; done) | (go_simp; with_reducible rfl))
           case rest8 =>
            try simp only [Act.put, List.setIfInBounds_toArray, List.set_cons_zero, List.set_cons_succ]
            refine wpAnyH_take (i := 9) (oi := ?oi9) (v := ?v9) ?ho9 ?ka9 ?kb9 ?kc9 (fun _ _ _ h => h) (Or.inl ⟨?wn9, ?hy9⟩) (by assumption) ?rest9
            case ho9 => (simp only [List.getElem?_toArray, List.getElem?_cons_succ, List.getElem?_cons_zero]; rfl)
            case ka9 => kernel_rfl
            case kb9 => kernel_rfl
            case kc9 => kernel_rfl
            case wn9 => rfl
            case hy9 => (intro w hSw; (try dsimp only at hSw); first | (go_simp; done) | (go_simp; with_reducible rfl))
            case rest9 =>
             try simp only [Act.put, List.setIfInBounds_toArray, List.set_cons_zero, List.set_cons_succ]
             refine wpAnyH_take (i := 10) (oi := ?oi10) (v := ?v10) ?ho10 ?ka10 ?kb10 ?kc10 (fun _ _ _ h => h) (Or.inl ⟨?wn10, ?hy10⟩) (by assumption) ?rest10
             case ho10 => (simp only [List.getElem?_toArray, List.getElem?_cons_succ, List.getElem?_cons_zero]; rfl)
             case ka10 => kernel_rfl
             case kb10 => kernel_rfl
             case kc10 => kernel_rfl
             case wn10 => rfl
             case hy10 => (intro w hSw; (try dsimp only at hSw); first | (go_simp; done) | (go_simp; with_reducible rfl))
             case rest10 =>
              try simp only [Act.put, List.setIfInBounds_toArray, List.set_cons_zero, List.set_cons_succ]
              refine wpAnyH_take (i := 11) (oi := ?oi11) (v := ?v11) ?ho11 ?ka11 ?kb11 ?kc11 (fun _ _ _ h => h) (Or.inl ⟨?wn11, ?hy11⟩) (by assumption) ?rest11
              case ho11 => (simp only [List.getElem?_toArray, List.getElem?_cons_succ, List.getElem?_cons_zero]; rfl)
              case ka11 => kernel_rfl
              case kb11 => kernel_rfl
              case kc11 => kernel_rfl
              case wn11 => rfl
              case hy11 => (intro w hSw; (try dsimp only at hSw); first | (go_simp; done) | (go_simp; with_reducible rfl))
              case rest11 =>
               try simp only [Act.put, List.setIfInBounds_toArray, List.set_cons_zero, List.set_cons_succ]
               refine wpAnyH_ready (rs := [1, 12]) (by kernel_rfl) (by simp) ?_
               refine AllReadyH.cons (o := ?o12) ?ho12 (fun K hK => ?st12) ?more12
               case ho12 => (simp only [List.getElem?_toArray, List.getElem?_cons_succ, List.getElem?_cons_zero]; rfl)
               case st12 =>
                go_simp
                refine hK.out _ _ ?hS12 (fun hHeld => ?goon12)
                case hS12 =>
                 try dsimp only
                 first
                      | exact ⟨HQ4C.out, HCX.out, HCV.out⟩
                      | exact hS5
                      | (refine ⟨?_, ?_, ?_⟩ <;> (rw [cell_setV (by first | exact hpob | exact hgbob | exact hbvob)]; first | exact hS5.1 | exact hS5.2.1 | exact hS5.2.2))
                      | go_keep
                case goon12 =>
                 clear hK K
                 try simp only [Act.put, List.setIfInBounds_toArray, List.set_cons_zero, List.set_cons_succ]
                 refine wpAnyH_ready (rs := [12]) (by kernel_rfl) (by simp) ?_
                 refine AllReadyH.cons (o := ?o13) ?ho13 (fun K hK => ?st13) ?more13
                 case ho13 => (simp only [List.getElem?_toArray, List.getElem?_cons_succ, List.getElem?_cons_zero]; rfl)
                 case st13 =>
                  go_simp
                  refine hK.out _ _ ?hS13 (fun hHeld => ?goon13)
                  case hS13 =>
                   try dsimp only
                   first
                        | exact ⟨HQ4C.out, HCX.out, HCV.out⟩
                        | exact hS5
                        | (refine ⟨?_, ?_, ?_⟩ <;> (rw [cell_setV (by first | exact hpob | exact hgbob | exact hbvob)]; first | exact hS5.1 | exact hS5.2.1 | exact hS5.2.2))
                        | go_keep
                  case goon13 =>
                   clear hK K
                   try simp only [Act.put, List.setIfInBounds_toArray, List.set_cons_zero, List.set_cons_succ]
                   refine wpAnyH_ready (rs := [13]) (by kernel_rfl) (by simp) ?_
                   refine AllReadyH.cons (o := ?o14) ?ho14 (fun K hK => ?st14) ?more14
                   case ho14 => (simp only [List.getElem?_toArray, List.getElem?_cons_succ, List.getElem?_cons_zero]; rfl)
                   case st14 =>
                    first
                         | (refine step_append_lies _ (by rfl) _ _ 26 (by rfl) G 2 i1 _ 1 8 Tryz.underlying26 hi1 hz10 hz11 hz12 rfl (by omega) vv i _ (by rfl) (owns_below HVROW.out HAD.out) ⟨wC.heap.size, 0, none⟩ 1 1 [.int .i64 vy] (by rfl) (by rfl) (World.news_of_block (cs := #[.int .i64 vy]) (t := 2) (fr := (0, 0)) (heap_alloc_new _ _)) (by simp [Value.oneCell']) (by omega) (by simp [maxLen]; omega) (by omega) (by simp; omega) (wC.heap.size + 1) (by simp) ?_; intro gg cap w5 hown5 hgrow5 hat5 hlt5; have z1 : w5.frozen? ⟨ob, 4, none⟩ = false := (hgrow5.frozen_far ⟨ob, 4, none⟩ (by simp; omega) HNE.out.2.2.2).trans ((HAD.out.frozen (p := ⟨ob, 4, none⟩) hobw).trans HFZ.out); have z2 := (hgrow5.cell_far ⟨ob, 4, none⟩ (by simp; omega) HNE.out.2.2.2).trans (keeps HAD.out hobw HCOB.out); have hS5 : w5.cell? ⟨p, 4, none⟩ = some (.slice (some ⟨bv, ov, none⟩) N cm) ∧ w5.cell? ⟨gb, i, none⟩ = some (.int .i64 xn) ∧ w5.cell? ⟨bv, ov + xn, none⟩ = some (.int .i64 vy) := ⟨(hgrow5.cell_far ⟨p, 4, none⟩ (by simp; omega) HNE.out.1).trans (keeps HAD.out hplC HQ4C.out), (hgrow5.cell_far ⟨gb, i, none⟩ (by simp; omega) HNE.out.2.2.1).trans (keeps HAD.out hgbw HCX.out), (hgrow5.cell_far ⟨bv, ov + xn, none⟩ (by simp; omega) HNE.out.2.1).trans (keeps HAD.out hbv HCV.out)⟩)
                         | fail
                    refine hK.out _ _ ?hS14 (fun hHeld => ?goon14)
                    case hS14 =>
                     try dsimp only
                     first
                          | exact ⟨HQ4C.out, HCX.out, HCV.out⟩
                          | exact hS5
                          | (refine ⟨?_, ?_, ?_⟩ <;> (rw [cell_setV (by first | exact hpob | exact hgbob | exact hbvob)]; first | exact hS5.1 | exact hS5.2.1 | exact hS5.2.2))
                          | go_keep
                    case goon14 =>
                     clear hK K
                     try simp only [Act.put, List.setIfInBounds_toArray, List.set_cons_zero, List.set_cons_succ]
                     refine wpAnyH_take (i := 14) (oi := ?oi15) (v := ?v15) ?ho15 ?ka15 ?kb15 ?kc15 (fun _ _ _ h => h) (Or.inl ⟨?wn15, ?hy15⟩) (by assumption) ?rest15
                     case ho15 => (simp only [List.getElem?_toArray, List.getElem?_cons_succ, List.getElem?_cons_zero]; rfl)
                     case ka15 => kernel_rfl
                     case kb15 => kernel_rfl
                     case kc15 => kernel_rfl
                     case wn15 => rfl
                     case hy15 => (intro w hSw; (try dsimp only at hSw); first | (go_simp; done) | (go_simp; with_reducible rfl))
                     case rest15 =>
                      try simp only [Act.put, List.setIfInBounds_toArray, List.set_cons_zero, List.set_cons_succ]
                      refine wpAnyH_ready (rs := [15]) (by kernel_rfl) (by simp) ?_
                      refine AllReadyH.cons (o := ?o16) ?ho16 (fun K hK => ?st16) ?more16
                      case ho16 => (simp only [List.getElem?_toArray, List.getElem?_cons_succ, List.getElem?_cons_zero]; rfl)
                      case st16 =>
                       go_simp
                       refine hK.out _ _ ?hS16 (fun hHeld => ?goon16)
                       case hS16 =>
                        try dsimp only
                        first
                             | exact ⟨HQ4C.out, HCX.out, HCV.out⟩
                             | exact hS5
                             | (refine ⟨?_, ?_, ?_⟩ <;> (rw [cell_setV (by first | exact hpob | exact hgbob | exact hbvob)]; first | exact hS5.1 | exact hS5.2.1 | exact hS5.2.2))
                             | go_keep
                       case goon16 =>
                        clear hK K
                        try simp only [Act.put, List.setIfInBounds_toArray, List.set_cons_zero, List.set_cons_succ]
                        refine wpAnyH_done (by kernel_rfl) ?_ _
                        refine NoPanic.normal ?_
                        obtain ⟨v2, hv2⟩ : ∃ v2, v2 = Value.slice (some ⟨gg, 0, none⟩) (i + 1) cap := ⟨_, rfl⟩
                        have hpush := VD.push (x := vy) (vv' := v2) HVD2.out HMM2.out HAD.out hgrow5 (by rw [HXL.out, hv2]; exact hown5) (by rw [hv2]; rcases hat5 with h | h; exact .inl h.symm; exact .inr (by simp [Value.ownBlock, h]))
                        rw [← HXS2.out] at hpush
                        obtain ⟨W6, hW6⟩ : ∃ W6, W6 = w5.setCell ⟨ob, 4, none⟩ v2 := ⟨_, rfl⟩
                        have HB6 : Hid (Below B wA W6) := by
                         unfold Hid
                         rw [hW6]
                         exact ((HBL.out.trans (HAD.out.mono (by omega))).grown hgrow5 (by simp; omega) (fun b e => Nat.le_trans hBG (HVROW.out.lt b e).1)).setCell (show B ≤ ob by omega) _
                        have HOP6 : Hid (W6.ownsRow B 2 1 (.slice (some ⟨gP, 0, none⟩) N cP) N (P.map (Value.int .i64))) := by
                         unfold Hid
                         rw [hW6]
                         exact owns_setOther ((owns_below HOP1.out HAD.out).kept hgrow5 (.inr (fun e => by have := (HVROW.out.lt gP e.symm).1; omega))) _ _ (by simp [Value.ownBlock]; omega)
                        rw [← hW6] at hpush
                        have HVD6 := Lib.hid hpush.1
                        have HMM6 := Lib.hid hpush.2
                        try rw [← hv2]
                        try rw [← hW6]
                        clear hv2 hpush hW6 hown5 hgrow5 hat5 hlt5 z1 z2 hS5 HVD HVD2 HMM2 HVROW HNE HFZ HCOB HQ4C HCV HCX HAD cob cx cv q4
                        go_wp2
                        go_loopw [5, 6, 7, 10] (fun v4 v5 v6 v8 wr => ∃ (n : Nat) (S : List Int) (E : List Edge), v8 = .int .i64 n ∧ 1 ≤ n ∧ n ≤ LN ∧ mrow P i (outTo d x n) S0 = ⟨S, E⟩ ∧ Below B wA wr ∧ wr.ownsRow B 2 1 (.slice (some ⟨gP, 0, none⟩) N cP) N (P.map (Value.int .i64)) ∧ MMem G wr v4 v5 v6 P ⟨S, E⟩ ∧ VD G ob wr v4 v5 v2 [.int .i64 0, .int .i64 0, .slice none 0 0, .slice none 0 0, v2] XS) (fun _ _ _ v8 _ => LN - (intOf v8).toNat)
                        case atStart => exact ⟨1, S0.rows, S0.edges, rfl, Nat.le_refl _, by omega, by rw [HT1.out]; rfl, HB6.out, HOP6.out, HMM6.out, HVD6.out⟩
                        case round =>
                         clear HT1 HBL HOP1 HB6 HOP6 HMM6 HVD6
                         obtain ⟨n, S, E, rfl, hn1, hn2, hM, hbl, hop, hmm, hvd⟩ := hrel
                         obtain ⟨wD, rfl⟩ : ∃ wD : World, wD = wr := ⟨_, rfl⟩
                         have hGM : MGood d P ⟨S, E⟩ := by rw [← hM]; exact HG0.out.row _ (by rw [← HR9.out]; exact hlt) fun e he => out_ok HV.out HSI.out e (outTo_sub e he)
                         have hS40 : S.length ≤ 40 := hGM.few HP40.out
                         have hpre := mrow_prefix P i (outTo d x n) S0
                         rw [hM] at hpre
                         have hiS : i < S.length := by
                          obtain ⟨⟨t, ht⟩, -⟩ := hpre
                          have h1 : S.length = S0.rows.length + t.length := by have := congrArg List.length ht; simpa using this
                          have := HR9.out
                          omega
                         have HTK : Hid ((S.take (i + 1)).map (bkOf V) = XS) := by
                          obtain ⟨⟨t, ht⟩, -⟩ := hpre
                          have h1 : S = S0.rows ++ t := ht
                          unfold Hid
                          rw [HXS.out, h1, List.take_append_of_le_length (by rw [← HR9.out]; exact hlt)]
                         have hxi : S.getD i 0 = x := by
                          obtain ⟨⟨t, ht⟩, -⟩ := hpre
                          have h1 : S = S0.rows ++ t := ht
                          rw [h1, List.getD_eq_getElem?_getD, List.getElem?_append_left (by rw [← HR9.out]; exact hlt), HXX.out]
                          rfl
                         have hE500 : E.length ≤ 500 := by
                          have h1 : E.length = S0.edges.length + (outTo d x n).length := hpre.2
                          have h2 : (outTo d x n).length ≤ (outOf d x).length := List.length_filter_le _ _
                          have h3 := mout_few HV.out HSI.out HU.out x
                          omega
                         obtain ⟨SN, hSN⟩ : ∃ SN, SN = S.length := ⟨_, rfl⟩
                         obtain ⟨EN, hEN⟩ : ∃ EN, EN = E.length := ⟨_, rfl⟩
                         have hlo2 : (S.map (bkOf P)).length = SN := by rw [List.length_map, hSN]
                         obtain ⟨ga, ca, rfl, hga, hgaw⟩ := own_someC hmm.od.left (by show 0 < (S.map (bkOf P)).length; rw [hlo2]; omega)
                         obtain ⟨gb, cb, rfl, hgb, hgbw⟩ := own_someC hmm.od.right (show 0 < S.length by omega)
                         obtain ⟨ge, ce, rfl, -, -⟩ := owns_slice hmm.ed
                         rw [hlo2, ← hSN, ← hEN]
                         rw [hlo2, ← hSN, ← hEN] at hmm
                         rw [hlo2, ← hSN] at hvd
                         rw [← hSN] at hS40 hiS
                         rw [← hEN] at hE500
                         have hright := hmm.od.right
                         rw [← hSN] at hright
                         have cx := cell_num hright hiS
                         rw [hxi] at cx
                         have hbw : Below w.heap.size w wD := HBA.out.trans (hbl.mono (by have := HB.out; have := HRB.out; omega))
                         have HM2 := Lib.hid hM
                         have HSN := Lib.hid hSN
                         have HEN := Lib.hid hEN
                         have HLO2 := Lib.hid hlo2
                         have HMM := Lib.hid hmm
                         have HVDn := Lib.hid hvd
                         have HBL := Lib.hid hbl
                         have HOP1 := Lib.hid hop
                         have HBWD := Lib.hid hbw
                         have hgaG : G ≤ ga := hga
                         have hszG : G < wD.heap.size := by omega
                         have hszD : B ≤ wD.heap.size := by have := hbl.size; have := HSA.out; have := HB.out; omega
                         have hszw := hbw.size
                         have q2 := keeps hbw hpl HQ2.out
                         have hplD : p < wD.heap.size := by omega
                         clear hM hGM hpre hxi hSN hEN hlo2 hmm hright hbl hop hvd
                         by_cases hnL : n < LN
                         ·have hnd : n < d.labels.length := by rw [← HLN.out]; exact hnL
                          obtain ⟨bl, ol, rfl, -, hblw, c1⟩ := HLR.out.one hnd
                          simp only [encS, List.getElem?_cons_zero] at c1
                          obtain ⟨l, hl⟩ : ∃ l, l = d.labels[n] := ⟨_, rfl⟩
                          rw [← hl] at c1
                          have c1' := keeps hbw hblw c1
                          have hblD : bl < wD.heap.size := by omega
                          obtain ⟨y, hy⟩ : ∃ y, y = goTo d x l := ⟨_, rfl⟩
                          have HGX : Hid (∀ w', Below wD.heap.size wD w' → Calls Tryz.prog 45 #[.pointer (some ⟨p, 0, none⟩), .int .i64 x, .string l] w' fun e w'' => e = .returned (.int .i64 y) ∧ Below w'.heap.size w' w'') := fun w' hb => by
                           rw [hy]; exact l12Go_any p lo d x l w' HV.out.edge (HP.out.below (HBWD.out.trans (hb.mono HBWD.out.size)))
                          have hol := out_label HV.out HU.out hx0 hnd
                          rw [← hl, ← hy] at hol
                          have HOL := Lib.hid hol
                          have hyN : y < (N : Int) := by rw [hy, HN.out]; exact (goTo_range HV.out x l).2
                          have lx := later_cell hgbw cx
                          have lq := later_cell hplD q2
                          have lc := later_cell hblD c1'
                          clear hl hy hol c1 c1' cx hnd hbw
                          go_wp2
                          refine wp_region_later (by kernel_rfl) (by kernel_rfl) ?_
                          repeat (go_big_quiet_step ((go_at_call 45; exact later_call (HGX.out _ (Later.h _)))))
                          refine wpQuiet_nil ?_
                          intro _ hw9
                          obtain ⟨nl, hw8⟩ := hw9
                          subst hw8
                          obtain ⟨w5, hw5⟩ : ∃ w5, w5 = nl.w := ⟨_, rfl⟩
                          have hb5 : Below wD.heap.size wD w5 := by rw [hw5]; exact nl.h
                          rw [← hw5]
                          have HB5 := Lib.hid (HBL.out.trans (hb5.mono (by have := HBL.out.size; omega)))
                          have HM5 := Lib.hid (HMM.out.below hb5)
                          have HV5 := Lib.hid (HVDn.out.below hb5)
                          have HOP5 := Lib.hid (owns_below HOP1.out hb5)
                          have hs5 := hb5.size
                          clear lx lq lc hw5 hb5 q2
                          clear nl
                          by_cases hy0 : y < 0
                          ·have HNX : Hid (mrow P i (outTo d x (n + 1)) S0 = ⟨S, E⟩) := by
                            rcases HOL.out with ⟨-, h⟩ | ⟨h, -⟩
                            ·unfold Hid; rw [h]; exact HM2.out
                            ·omega
                           go_wp2
                           go_roundw
                           case rel => exact ⟨n + 1, S, E, by go_num, by omega, by omega, HNX.out, HB5.out, HOP5.out, HM5.out, HV5.out⟩
                           case measure => simp [intOf]; omega
                          ·obtain ⟨e, hel, hed, hnx⟩ : ∃ e, e.lab = (n : Int) ∧ e.dst = y ∧ outTo d x (n + 1) = outTo d x n ++ [e] := by
                            rcases HOL.out with ⟨h, -⟩ | ⟨-, h⟩
                            ·exact absurd h hy0
                            ·exact h
                           obtain ⟨yn, hyn⟩ : ∃ yn : Nat, (yn : Int) = y := ⟨y.toNat, by omega⟩
                           have hynN : yn < N := by omega
                           have hynP : yn < P.length := by rw [HPL.out]; exact hynN
                           obtain ⟨py, hpy⟩ : ∃ py, py = P[yn] := ⟨_, rfl⟩
                           have hbk : bkOf P y = py := by unfold bkOf; rw [← hyn, Int.toNat_natCast, hpy]; exact getD_eq hynP
                           have cy := HOP5.out.cellAt yn (by omega)
                           rw [List.getElem?_map, List.getElem?_eq_getElem hynP, Option.map_some, ← hpy] at cy
                           have HPLC := Lib.hid (l11Place_any G (.slice (some ⟨ga, 0, none⟩) SN ca) (S.map (bkOf P)) py w5 (SliceK.of_owns (enc := encI) (e := 2) encI_len HLO2.out.symm (by have h := HM5.out.od.left; rw [HLO2.out] at h; rw [flat_encI]; exact h)))
                           rw [← hbk, placeI_rows, hbk] at HPLC
                           obtain ⟨pn, hpn⟩ : ∃ pn, pn = mplace P S y := ⟨_, rfl⟩
                           rw [← hpn, ← HSN.out] at HPLC
                           have HNX : Hid (mrow P i (outTo d x (n + 1)) S0 = mstep P i ⟨S, E⟩ e) := by unfold Hid; rw [hnx, mrow_snoc, HM2.out]
                           have HEL := Lib.hid hel
                           have HED := Lib.hid hed
                           have HPN := Lib.hid hpn
                           have HBK := Lib.hid hbk
                           have hgP5 : gP < w5.heap.size := (HOP5.out.lt gP rfl).2
                           rw [← hyn] at hy0 ⊢
                           have HYN := Lib.hid hyn
                           clear hel hed hnx hpy hbk hpn HOL HGX hyn
                           go_wp2_with fail
                           refine Calls.mono HPLC.out ?_
                           rintro e9 w6 ⟨rfl, hb6⟩
                           have HB6 := Lib.hid (HB5.out.trans (hb6.mono (by have := HB5.out.size; have := HSA.out; have := HB.out; omega)))
                           have HM6 := Lib.hid (HM5.out.below hb6)
                           have HV6 := Lib.hid (HV5.out.below hb6)
                           have HOP6 := Lib.hid (owns_below HOP5.out hb6)
                           have hs6 := hb6.size
                           have cy6 := keeps hb6 hgP5 cy
                           clear hb6 cy HPLC
                           by_cases hpl2 : pn < SN
                           ·rw [if_pos hpl2]
                            have HST : Hid (mstep P i ⟨S, E⟩ e = ⟨S, E ++ [⟨(i : Int), (n : Int), (pn : Int)⟩]⟩) := by
                             have h := mstep_old (p := P) (i := i) (st := ⟨S, E⟩) (e := e) (by show mplace P S e.dst < S.length; rw [HED.out, ← HPN.out, ← HSN.out]; exact hpl2)
                             unfold Hid
                             rw [h, HEL.out]
                             show MNet.mk S (E ++ [⟨(i : Int), (n : Int), ((mplace P S e.dst : Nat) : Int)⟩]) = _
                             rw [HED.out, ← HPN.out]
                            have HED6 : Hid (w6.ownsRow G 78 3 (.slice ge EN ce) EN (E.flatMap encE)) := by
                             have h := HM6.out.ed
                             unfold Hid; rw [HEN.out]; rw [HEN.out] at h; exact h
                            have hpn0 : ¬ (pn : Int) < 0 := by omega
                            clear cy6
                            go_wp2_with (at_builtin; refine wpList_append_own_at _ rfl _ _ 30 rfl G 78 i2 (.agg #[.int .i64 0, .int .i64 0, .int .i64 0]) 3 24 Tryz.underlying30 hi2 hz20 hz21 hz22 rfl (by decide) _ EN _ rfl (HED6.out.alloc _) ⟨w6.heap.size, 0, none⟩ 1 1 [.int .i64 i, .int .i64 n, .int .i64 pn] rfl rfl ?c1 ?c2 ?c3 ?c4 ?c5 ?_)
                            case c1 => have := three_new w6 ⟨(i : Int), (n : Int), (pn : Int)⟩ 78; simpa [encE] using this
                            case c2 => first | (intro u hu; simp at hu; rcases hu with rfl | rfl | rfl <;> rfl) | exact ⟨rfl, rfl, rfl⟩ | simp [Value.oneCell']
                            case c3 => first | omega | (simp [maxLen]; omega)
                            case c4 => first | omega | (simp; omega)
                            case c5 => first | omega | (simp; omega)
                            intro v9 w9 ho9 hg9 _ _
                            have hal9 : Below w6.heap.size w6 (w6.alloc (.cells #[.int .i64 i, .int .i64 n, .int .i64 pn] 78)) := (Below.refl _ _).alloc (Nat.le_refl _) _
                            have HM9 := Lib.hid (MMem.edge (e := ⟨(i : Int), (n : Int), (pn : Int)⟩) HM6.out hal9 hg9 (by rw [← HEN.out]; simpa [encE] using ho9))
                            have HB9 : Hid (Below B wA w9) := (HB6.out.alloc (by have := HB6.out.size; have := HSA.out; have := HB.out; omega) _).grown hg9 (by simp; omega) (fun b e => Nat.le_trans hBG (HED6.out.lt b e).1)
                            have HOP9 : Hid (w9.ownsRow B 2 1 (.slice (some ⟨gP, 0, none⟩) N cP) N (P.map (Value.int .i64))) := (owns_below HOP6.out hal9).kept hg9 (own_types (owns_below HOP6.out hal9) (owns_below HED6.out hal9) (by decide))
                            have HV9 := Lib.hid (HV6.out.growE hal9 hg9 (owns_below HED6.out hal9))
                            clear ho9 hg9 hal9
                            go_wp2
                            go_roundw
                            case rel => exact ⟨n + 1, S, E ++ [⟨(i : Int), (n : Int), (pn : Int)⟩], by go_num, by omega, by omega, by rw [HNX.out, HST.out], HB9.out, HOP9.out, HM9.out, HV9.out⟩
                            case measure => simp [intOf]; omega
                           ·rw [if_neg hpl2]
                            have hpnS : pn = SN := by have h := mplace_le P S y; rw [← HPN.out, ← HSN.out] at h; omega
                            have HST : Hid (mstep P i ⟨S, E⟩ e = ⟨S ++ [y], E ++ [⟨(i : Int), (n : Int), (SN : Int)⟩]⟩) := by
                             have h := mstep_new (p := P) (i := i) (st := ⟨S, E⟩) (e := e) (by show ¬ mplace P S e.dst < S.length; rw [HED.out, ← HPN.out, ← HSN.out]; exact hpl2)
                             unfold Hid
                             rw [h, HEL.out, HED.out]
                             show MNet.mk (S ++ [y]) (E ++ [⟨(i : Int), (n : Int), ((S.length : Nat) : Int)⟩]) = _
                             rw [← HSN.out]
                            have HED6 : Hid (w6.ownsRow G 78 3 (.slice ge EN ce) EN (E.flatMap encE)) := by
                             have h := HM6.out.ed
                             unfold Hid; rw [HEN.out]; rw [HEN.out] at h; exact h
                            have hal6 : Below w6.heap.size w6 (w6.alloc (.cells #[.int .i64 py] 2)) := (Below.refl _ _).alloc (Nat.le_refl _) _
                            have HL1 : Hid ((w6.alloc (.cells #[.int .i64 py] 2)).ownsRow G 2 1 (.slice (some ⟨ga, 0, none⟩) SN ca) SN ((S.map (bkOf P)).map (Value.int .i64))) := by
                             have h := HM6.out.od.left
                             rw [HLO2.out] at h
                             exact h.alloc _
                            have hG6 : G < w6.heap.size := by omega
                            go_wp2_with (at_builtin; refine wpList_append_own_at _ rfl _ _ 26 rfl G 2 i1 (.int .i64 0) 1 8 Tryz.underlying26 hi1 hz10 hz11 hz12 rfl (by decide) _ SN _ rfl HL1.out ⟨w6.heap.size, 0, none⟩ 1 1 [.int .i64 py] rfl rfl (World.news_of_block (cs := #[.int .i64 py]) (t := 2) (fr := (0, 0)) (heap_alloc_new _ _)) ?k2 ?k3 ?k4 ?k5 ?_)
                            case k2 => first | (intro u hu; simp at hu; subst hu; rfl) | rfl
                            case k3 => first | (simp [maxLen]; omega) | omega
                            case k4 => omega
                            case k5 => first | omega | (simp; omega)
                            intro v7 w7 ho7 hg7 _ ha7
                            have HB7 : Hid (Below B wA w7) := (HB6.out.alloc (by have := HB6.out.size; have := HSA.out; have := HB.out; omega) _).grown hg7 (by simp; omega) (fun b e => Nat.le_trans hBG (HL1.out.lt b e).1)
                            have HOD7 : Hid (OwnD G w7 v7 (.slice (some ⟨gb, 0, none⟩) SN cb) (.slice none 0 0) (.slice none 0 0) (S.map (bkOf P) ++ [py]) S [] []) := HM6.out.od.pushL hg7 (by show w7.ownsRow G 2 1 v7 ((S.map (bkOf P)).length + 1) ((S.map (bkOf P)).map (Value.int .i64) ++ [.int .i64 py]); rw [HLO2.out, List.map_map]; exact ho7) (by simpa using ha7)
                            have HED7 : Hid (w7.ownsRow G 78 3 (.slice ge EN ce) EN (E.flatMap encE)) := (owns_below HED6.out hal6).kept hg7 (own_types (owns_below HED6.out hal6) HL1.out (by decide))
                            have HOP7 : Hid (w7.ownsRow B 2 1 (.slice (some ⟨gP, 0, none⟩) N cP) N (P.map (Value.int .i64))) := (owns_below HOP6.out hal6).kept hg7 (.inr (by simp [Value.ownBlock]; omega))
                            have hs7 : w6.heap.size ≤ w7.heap.size := by have := hg7.size; simp at this; omega
                            have HV7 := Lib.hid (HV6.out.growO hal6 hg7 HL1.out (by simpa using ha7))
                            obtain ⟨a7, c7, rfl, -, -⟩ := owns_slice ho7
                            clear ho7 hg7 ha7 HL1 cy6 hal6
                            have hal7 : Below w7.heap.size w7 (w7.alloc (.cells #[.int .i64 yn] 2)) := (Below.refl _ _).alloc (Nat.le_refl _) _
                            have HL2 : Hid ((w7.alloc (.cells #[.int .i64 yn] 2)).ownsRow G 2 1 (.slice (some ⟨gb, 0, none⟩) SN cb) SN (S.map (Value.int .i64))) := by
                             have h := HOD7.out.right
                             rw [← HSN.out] at h
                             exact h.alloc _
                            go_wp2_with (at_builtin; refine wpList_append_own_at _ rfl _ _ 26 rfl G 2 i1 (.int .i64 0) 1 8 Tryz.underlying26 hi1 hz10 hz11 hz12 rfl (by decide) _ SN _ rfl HL2.out ⟨w7.heap.size, 0, none⟩ 1 1 [.int .i64 yn] rfl rfl (World.news_of_block (cs := #[.int .i64 yn]) (t := 2) (fr := (0, 0)) (heap_alloc_new _ _)) ?k2 ?k3 ?k4 ?k5 ?_)
                            case k2 => first | (intro u hu; simp at hu; subst hu; rfl) | rfl
                            case k3 => first | (simp [maxLen]; omega) | omega
                            case k4 => omega
                            case k5 => first | omega | (simp; omega)
                            intro v8 w8 ho8 hg8 _ ha8
                            have HB8 : Hid (Below B wA w8) := (HB7.out.alloc (by have := HB7.out.size; have := HSA.out; have := HB.out; omega) _).grown hg8 (by simp; omega) (fun b e => Nat.le_trans hBG (HL2.out.lt b e).1)
                            have HOD8 : Hid (OwnD G w8 (.slice a7 (SN + 1) c7) v8 (.slice none 0 0) (.slice none 0 0) (S.map (bkOf P) ++ [py]) (S ++ [(yn : Int)]) [] []) := HOD7.out.pushR hg8 (by rw [← HSN.out]; exact ho8) (by simpa using ha8)
                            have HED8 : Hid (w8.ownsRow G 78 3 (.slice ge EN ce) EN (E.flatMap encE)) := (owns_below HED7.out hal7).kept hg8 (own_types (owns_below HED7.out hal7) HL2.out (by decide))
                            have HOP8 : Hid (w8.ownsRow B 2 1 (.slice (some ⟨gP, 0, none⟩) N cP) N (P.map (Value.int .i64))) := (owns_below HOP7.out hal7).kept hg8 (.inr (by simp [Value.ownBlock]; omega))
                            have hs8 : w7.heap.size ≤ w8.heap.size := by have := hg8.size; simp at this; omega
                            have HV8 := Lib.hid (HV7.out.growS hal7 hg8 HL2.out (by simpa using ha8))
                            obtain ⟨a8, c8, rfl, -, -⟩ := owns_slice ho8
                            have HM8 : Hid (MMem G w8 (.slice a7 (SN + 1) c7) (.slice a8 (SN + 1) c8) (.slice ge EN ce) P ⟨S ++ [y], E⟩) := by
                             have h := HOD8.out
                             rw [HYN.out] at h
                             refine ⟨?_, by have h9 := HED8.out; rw [HEN.out] at h9 ⊢; exact h9⟩
                             show OwnD G w8 _ _ _ _ ((S ++ [y]).map (bkOf P)) (S ++ [y]) [] []
                             rw [List.map_append, List.map_singleton, HBK.out]
                             exact h
                            clear ho8 hg8 ha8 HL2 HOD7 HOD8 hal7 HB7 HED7 HOP7
                            go_wp2_with (at_builtin; refine wpList_append_own_at _ rfl _ _ 30 rfl G 78 i2 (.agg #[.int .i64 0, .int .i64 0, .int .i64 0]) 3 24 Tryz.underlying30 hi2 hz20 hz21 hz22 rfl (by decide) _ EN _ rfl (HED8.out.alloc _) ⟨w8.heap.size, 0, none⟩ 1 1 [.int .i64 i, .int .i64 n, .int .i64 SN] rfl rfl ?c1 ?c2 ?c3 ?c4 ?c5 ?_)
                            case c1 => have := three_new w8 ⟨(i : Int), (n : Int), (SN : Int)⟩ 78; simpa [encE] using this
                            case c2 => first | (intro u hu; simp at hu; rcases hu with rfl | rfl | rfl <;> rfl) | exact ⟨rfl, rfl, rfl⟩ | simp [Value.oneCell']
                            case c3 => first | omega | (simp [maxLen]; omega)
                            case c4 => first | omega | (simp; omega)
                            case c5 => first | omega | (simp; omega)
                            intro v9 w9 ho9 hg9 _ _
                            have hal9 : Below w8.heap.size w8 (w8.alloc (.cells #[.int .i64 i, .int .i64 n, .int .i64 SN] 78)) := (Below.refl _ _).alloc (Nat.le_refl _) _
                            have HM9 := Lib.hid (MMem.edge (e := ⟨(i : Int), (n : Int), (SN : Int)⟩) HM8.out hal9 hg9 (by rw [← HEN.out]; simpa [encE] using ho9))
                            have HB9 : Hid (Below B wA w9) := (HB8.out.alloc (by have := HB8.out.size; have := HSA.out; have := HB.out; omega) _).grown hg9 (by simp; omega) (fun b e => Nat.le_trans hBG (HED8.out.lt b e).1)
                            have HOP9 : Hid (w9.ownsRow B 2 1 (.slice (some ⟨gP, 0, none⟩) N cP) N (P.map (Value.int .i64))) := (owns_below HOP8.out hal9).kept hg9 (own_types (owns_below HOP8.out hal9) (owns_below HED8.out hal9) (by decide))
                            have HV9 := Lib.hid (HV8.out.growE hal9 hg9 (owns_below HED8.out hal9))
                            clear ho9 hg9 hal9
                            go_wp2
                            go_roundw
                            case rel => exact ⟨n + 1, S ++ [y], E ++ [⟨(i : Int), (n : Int), (SN : Int)⟩], by go_num, by omega, by omega, by rw [HNX.out, HST.out], HB9.out, HOP9.out, HM9.out, HV9.out⟩
                            case measure => simp [intOf]; omega
                         ·obtain rfl : n = LN := by omega
                          have HNX : Hid (vAt d P (i + 1) = ⟨S, E⟩) := by
                           unfold Hid
                           have h1 := outTo_all (d := d) (x := x) (fun e he => by
                            obtain ⟨j, hj, rfl⟩ := List.mem_iff_getElem.1 he
                            exact (HV.out.edge j hj).l1)
                           rw [vAt_some (show (vAt d P i).rows[i]? = some x from by rw [← HS0.out]; exact HXX.out), ← HS0.out, ← h1, ← HLN.out]
                           exact HM2.out
                          have HSNS := HSN.out
                          clear hbw
                          go_wp2
                          go_roundw
                          case rel => exact ⟨i + 1, v2, by go_num, by rw [HNX.out]; show VD G ob _ _ _ v2 _ ((S.take (i + 1)).map (bkOf V)); rw [HTK.out]; exact HVDn.out, by rw [HNX.out]; show i + 1 ≤ S.length; omega, HBL.out, HOP1.out, by rw [HNX.out]; exact HMM.out⟩
                          case measure => simp [intOf]; omega
                      exact AllReadyH.nil
                   exact AllReadyH.nil
                 exact AllReadyH.nil
               refine AllReadyH.cons (o := ?o17) ?ho17 (fun K hK => ?st17) ?more17
               case ho17 => (simp only [List.getElem?_toArray, List.getElem?_cons_succ, List.getElem?_cons_zero]; rfl)
               case st17 =>
                go_simp
                refine hK.out _ _ ?hS17 (fun hHeld => ?goon17)
                case hS17 =>
                 try dsimp only
                 first
                      | exact ⟨HQ4C.out, HCX.out, HCV.out⟩
                      | exact hS5
                      | (refine ⟨?_, ?_, ?_⟩ <;> (rw [cell_setV (by first | exact hpob | exact hgbob | exact hbvob)]; first | exact hS5.1 | exact hS5.2.1 | exact hS5.2.2))
                      | go_keep
                case goon17 =>
                 clear hK K
                 try simp only [Act.put, List.setIfInBounds_toArray, List.set_cons_zero, List.set_cons_succ]
                 refine wpAnyH_ready (rs := [1]) (by kernel_rfl) (by simp) ?_
                 refine AllReadyH.cons (o := ?o18) ?ho18 (fun K hK => ?st18) ?more18
                 case ho18 => (simp only [List.getElem?_toArray, List.getElem?_cons_succ, List.getElem?_cons_zero]; rfl)
                 case st18 =>
                  go_simp
                  refine hK.out _ _ ?hS18 (fun hHeld => ?goon18)
                  case hS18 =>
                   try dsimp only
                   first
                        | exact ⟨HQ4C.out, HCX.out, HCV.out⟩
                        | exact hS5
                        | (refine ⟨?_, ?_, ?_⟩ <;> (rw [cell_setV (by first | exact hpob | exact hgbob | exact hbvob)]; first | exact hS5.1 | exact hS5.2.1 | exact hS5.2.2))
                        | go_keep
                  case goon18 =>
                   clear hK K
                   try simp only [Act.put, List.setIfInBounds_toArray, List.set_cons_zero, List.set_cons_succ]
                   refine wpAnyH_ready (rs := [13]) (by kernel_rfl) (by simp) ?_
                   refine AllReadyH.cons (o := ?o19) ?ho19 (fun K hK => ?st19) ?more19
                   case ho19 => (simp only [List.getElem?_toArray, List.getElem?_cons_succ, List.getElem?_cons_zero]; rfl)
                   case st19 =>
                    first
                         | (refine step_append_lies _ (by rfl) _ _ 26 (by rfl) G 2 i1 _ 1 8 Tryz.underlying26 hi1 hz10 hz11 hz12 rfl (by omega) vv i _ (by rfl) (owns_below HVROW.out HAD.out) ⟨wC.heap.size, 0, none⟩ 1 1 [.int .i64 vy] (by rfl) (by rfl) (World.news_of_block (cs := #[.int .i64 vy]) (t := 2) (fr := (0, 0)) (heap_alloc_new _ _)) (by simp [Value.oneCell']) (by omega) (by simp [maxLen]; omega) (by omega) (by simp; omega) (wC.heap.size + 1) (by simp) ?_; intro gg cap w5 hown5 hgrow5 hat5 hlt5; have z1 : w5.frozen? ⟨ob, 4, none⟩ = false := (hgrow5.frozen_far ⟨ob, 4, none⟩ (by simp; omega) HNE.out.2.2.2).trans ((HAD.out.frozen (p := ⟨ob, 4, none⟩) hobw).trans HFZ.out); have z2 := (hgrow5.cell_far ⟨ob, 4, none⟩ (by simp; omega) HNE.out.2.2.2).trans (keeps HAD.out hobw HCOB.out); have hS5 : w5.cell? ⟨p, 4, none⟩ = some (.slice (some ⟨bv, ov, none⟩) N cm) ∧ w5.cell? ⟨gb, i, none⟩ = some (.int .i64 xn) ∧ w5.cell? ⟨bv, ov + xn, none⟩ = some (.int .i64 vy) := ⟨(hgrow5.cell_far ⟨p, 4, none⟩ (by simp; omega) HNE.out.1).trans (keeps HAD.out hplC HQ4C.out), (hgrow5.cell_far ⟨gb, i, none⟩ (by simp; omega) HNE.out.2.2.1).trans (keeps HAD.out hgbw HCX.out), (hgrow5.cell_far ⟨bv, ov + xn, none⟩ (by simp; omega) HNE.out.2.1).trans (keeps HAD.out hbv HCV.out)⟩)
                         | fail
                    refine hK.out _ _ ?hS19 (fun hHeld => ?goon19)
                    case hS19 =>
                     try dsimp only
                     first
                          | exact ⟨HQ4C.out, HCX.out, HCV.out⟩
                          | exact hS5
                          | (refine ⟨?_, ?_, ?_⟩ <;> (rw [cell_setV (by first | exact hpob | exact hgbob | exact hbvob)]; first | exact hS5.1 | exact hS5.2.1 | exact hS5.2.2))
                          | go_keep
                    case goon19 =>
                     clear hK K
                     try simp only [Act.put, List.setIfInBounds_toArray, List.set_cons_zero, List.set_cons_succ]
                     refine wpAnyH_take (i := 14) (oi := ?oi20) (v := ?v20) ?ho20 ?ka20 ?kb20 ?kc20 (fun _ _ _ h => h) (Or.inl ⟨?wn20, ?hy20⟩) (by assumption) ?rest20
                     case ho20 => (simp only [List.getElem?_toArray, List.getElem?_cons_succ, List.getElem?_cons_zero]; rfl)
                     case ka20 => kernel_rfl
                     case kb20 => kernel_rfl
                     case kc20 => kernel_rfl
                     case wn20 => rfl
                     case hy20 => (intro w hSw; (try dsimp only at hSw); first | (go_simp; done) | (go_simp; with_reducible rfl))
                     case rest20 =>
                      try simp only [Act.put, List.setIfInBounds_toArray, List.set_cons_zero, List.set_cons_succ]
                      refine wpAnyH_ready (rs := [15]) (by kernel_rfl) (by simp) ?_
                      refine AllReadyH.cons (o := ?o21) ?ho21 (fun K hK => ?st21) ?more21
                      case ho21 => (simp only [List.getElem?_toArray, List.getElem?_cons_succ, List.getElem?_cons_zero]; rfl)
                      case st21 =>
                       go_simp
                       refine hK.out _ _ ?hS21 (fun hHeld => ?goon21)
                       case hS21 =>
                        try dsimp only
                        first
                             | exact ⟨HQ4C.out, HCX.out, HCV.out⟩
                             | exact hS5
                             | (refine ⟨?_, ?_, ?_⟩ <;> (rw [cell_setV (by first | exact hpob | exact hgbob | exact hbvob)]; first | exact hS5.1 | exact hS5.2.1 | exact hS5.2.2))
                             | go_keep
                       case goon21 =>
                        clear hK K
                        try simp only [Act.put, List.setIfInBounds_toArray, List.set_cons_zero, List.set_cons_succ]
                        refine wpAnyH_done (by kernel_rfl) ?_ _
                        refine NoPanic.normal ?_
                        obtain ⟨v2, hv2⟩ : ∃ v2, v2 = Value.slice (some ⟨gg, 0, none⟩) (i + 1) cap := ⟨_, rfl⟩
                        have hpush := VD.push (x := vy) (vv' := v2) HVD2.out HMM2.out HAD.out hgrow5 (by rw [HXL.out, hv2]; exact hown5) (by rw [hv2]; rcases hat5 with h | h; exact .inl h.symm; exact .inr (by simp [Value.ownBlock, h]))
                        rw [← HXS2.out] at hpush
                        obtain ⟨W6, hW6⟩ : ∃ W6, W6 = w5.setCell ⟨ob, 4, none⟩ v2 := ⟨_, rfl⟩
                        have HB6 : Hid (Below B wA W6) := by
                         unfold Hid
                         rw [hW6]
                         exact ((HBL.out.trans (HAD.out.mono (by omega))).grown hgrow5 (by simp; omega) (fun b e => Nat.le_trans hBG (HVROW.out.lt b e).1)).setCell (show B ≤ ob by omega) _
                        have HOP6 : Hid (W6.ownsRow B 2 1 (.slice (some ⟨gP, 0, none⟩) N cP) N (P.map (Value.int .i64))) := by
                         unfold Hid
                         rw [hW6]
                         exact owns_setOther ((owns_below HOP1.out HAD.out).kept hgrow5 (.inr (fun e => by have := (HVROW.out.lt gP e.symm).1; omega))) _ _ (by simp [Value.ownBlock]; omega)
                        rw [← hW6] at hpush
                        have HVD6 := Lib.hid hpush.1
                        have HMM6 := Lib.hid hpush.2
                        try rw [← hv2]
                        try rw [← hW6]
                        clear hv2 hpush hW6 hown5 hgrow5 hat5 hlt5 z1 z2 hS5 HVD HVD2 HMM2 HVROW HNE HFZ HCOB HQ4C HCV HCX HAD cob cx cv q4
                        go_wp2
                        go_loopw [5, 6, 7, 10] (fun v4 v5 v6 v8 wr => ∃ (n : Nat) (S : List Int) (E : List Edge), v8 = .int .i64 n ∧ 1 ≤ n ∧ n ≤ LN ∧ mrow P i (outTo d x n) S0 = ⟨S, E⟩ ∧ Below B wA wr ∧ wr.ownsRow B 2 1 (.slice (some ⟨gP, 0, none⟩) N cP) N (P.map (Value.int .i64)) ∧ MMem G wr v4 v5 v6 P ⟨S, E⟩ ∧ VD G ob wr v4 v5 v2 [.int .i64 0, .int .i64 0, .slice none 0 0, .slice none 0 0, v2] XS) (fun _ _ _ v8 _ => LN - (intOf v8).toNat)
                        case atStart => exact ⟨1, S0.rows, S0.edges, rfl, Nat.le_refl _, by omega, by rw [HT1.out]; rfl, HB6.out, HOP6.out, HMM6.out, HVD6.out⟩
                        case round =>
                         clear HT1 HBL HOP1 HB6 HOP6 HMM6 HVD6
                         obtain ⟨n, S, E, rfl, hn1, hn2, hM, hbl, hop, hmm, hvd⟩ := hrel
                         obtain ⟨wD, rfl⟩ : ∃ wD : World, wD = wr := ⟨_, rfl⟩
                         have hGM : MGood d P ⟨S, E⟩ := by rw [← hM]; exact HG0.out.row _ (by rw [← HR9.out]; exact hlt) fun e he => out_ok HV.out HSI.out e (outTo_sub e he)
                         have hS40 : S.length ≤ 40 := hGM.few HP40.out
                         have hpre := mrow_prefix P i (outTo d x n) S0
                         rw [hM] at hpre
                         have hiS : i < S.length := by
                          obtain ⟨⟨t, ht⟩, -⟩ := hpre
                          have h1 : S.length = S0.rows.length + t.length := by have := congrArg List.length ht; simpa using this
                          have := HR9.out
                          omega
                         have HTK : Hid ((S.take (i + 1)).map (bkOf V) = XS) := by
                          obtain ⟨⟨t, ht⟩, -⟩ := hpre
                          have h1 : S = S0.rows ++ t := ht
                          unfold Hid
                          rw [HXS.out, h1, List.take_append_of_le_length (by rw [← HR9.out]; exact hlt)]
                         have hxi : S.getD i 0 = x := by
                          obtain ⟨⟨t, ht⟩, -⟩ := hpre
                          have h1 : S = S0.rows ++ t := ht
                          rw [h1, List.getD_eq_getElem?_getD, List.getElem?_append_left (by rw [← HR9.out]; exact hlt), HXX.out]
                          rfl
                         have hE500 : E.length ≤ 500 := by
                          have h1 : E.length = S0.edges.length + (outTo d x n).length := hpre.2
                          have h2 : (outTo d x n).length ≤ (outOf d x).length := List.length_filter_le _ _
                          have h3 := mout_few HV.out HSI.out HU.out x
                          omega
                         obtain ⟨SN, hSN⟩ : ∃ SN, SN = S.length := ⟨_, rfl⟩
                         obtain ⟨EN, hEN⟩ : ∃ EN, EN = E.length := ⟨_, rfl⟩
                         have hlo2 : (S.map (bkOf P)).length = SN := by rw [List.length_map, hSN]
                         obtain ⟨ga, ca, rfl, hga, hgaw⟩ := own_someC hmm.od.left (by show 0 < (S.map (bkOf P)).length; rw [hlo2]; omega)
                         obtain ⟨gb, cb, rfl, hgb, hgbw⟩ := own_someC hmm.od.right (show 0 < S.length by omega)
                         obtain ⟨ge, ce, rfl, -, -⟩ := owns_slice hmm.ed
                         rw [hlo2, ← hSN, ← hEN]
                         rw [hlo2, ← hSN, ← hEN] at hmm
                         rw [hlo2, ← hSN] at hvd
                         rw [← hSN] at hS40 hiS
                         rw [← hEN] at hE500
                         have hright := hmm.od.right
                         rw [← hSN] at hright
                         have cx := cell_num hright hiS
                         rw [hxi] at cx
                         have hbw : Below w.heap.size w wD := HBA.out.trans (hbl.mono (by have := HB.out; have := HRB.out; omega))
                         have HM2 := Lib.hid hM
                         have HSN := Lib.hid hSN
                         have HEN := Lib.hid hEN
                         have HLO2 := Lib.hid hlo2
                         have HMM := Lib.hid hmm
                         have HVDn := Lib.hid hvd
                         have HBL := Lib.hid hbl
                         have HOP1 := Lib.hid hop
                         have HBWD := Lib.hid hbw
                         have hgaG : G ≤ ga := hga
                         have hszG : G < wD.heap.size := by omega
                         have hszD : B ≤ wD.heap.size := by have := hbl.size; have := HSA.out; have := HB.out; omega
                         have hszw := hbw.size
                         have q2 := keeps hbw hpl HQ2.out
                         have hplD : p < wD.heap.size := by omega
                         clear hM hGM hpre hxi hSN hEN hlo2 hmm hright hbl hop hvd
                         by_cases hnL : n < LN
                         ·have hnd : n < d.labels.length := by rw [← HLN.out]; exact hnL
                          obtain ⟨bl, ol, rfl, -, hblw, c1⟩ := HLR.out.one hnd
                          simp only [encS, List.getElem?_cons_zero] at c1
                          obtain ⟨l, hl⟩ : ∃ l, l = d.labels[n] := ⟨_, rfl⟩
                          rw [← hl] at c1
                          have c1' := keeps hbw hblw c1
                          have hblD : bl < wD.heap.size := by omega
                          obtain ⟨y, hy⟩ : ∃ y, y = goTo d x l := ⟨_, rfl⟩
                          have HGX : Hid (∀ w', Below wD.heap.size wD w' → Calls Tryz.prog 45 #[.pointer (some ⟨p, 0, none⟩), .int .i64 x, .string l] w' fun e w'' => e = .returned (.int .i64 y) ∧ Below w'.heap.size w' w'') := fun w' hb => by
                           rw [hy]; exact l12Go_any p lo d x l w' HV.out.edge (HP.out.below (HBWD.out.trans (hb.mono HBWD.out.size)))
                          have hol := out_label HV.out HU.out hx0 hnd
                          rw [← hl, ← hy] at hol
                          have HOL := Lib.hid hol
                          have hyN : y < (N : Int) := by rw [hy, HN.out]; exact (goTo_range HV.out x l).2
                          have lx := later_cell hgbw cx
                          have lq := later_cell hplD q2
                          have lc := later_cell hblD c1'
                          clear hl hy hol c1 c1' cx hnd hbw
                          go_wp2
                          refine wp_region_later (by kernel_rfl) (by kernel_rfl) ?_
                          repeat (go_big_quiet_step ((go_at_call 45; exact later_call (HGX.out _ (Later.h _)))))
                          refine wpQuiet_nil ?_
                          intro _ hw9
                          obtain ⟨nl, hw8⟩ := hw9
                          subst hw8
                          obtain ⟨w5, hw5⟩ : ∃ w5, w5 = nl.w := ⟨_, rfl⟩
                          have hb5 : Below wD.heap.size wD w5 := by rw [hw5]; exact nl.h
                          rw [← hw5]
                          have HB5 := Lib.hid (HBL.out.trans (hb5.mono (by have := HBL.out.size; omega)))
                          have HM5 := Lib.hid (HMM.out.below hb5)
                          have HV5 := Lib.hid (HVDn.out.below hb5)
                          have HOP5 := Lib.hid (owns_below HOP1.out hb5)
                          have hs5 := hb5.size
                          clear lx lq lc hw5 hb5 q2
                          clear nl
                          by_cases hy0 : y < 0
                          ·have HNX : Hid (mrow P i (outTo d x (n + 1)) S0 = ⟨S, E⟩) := by
                            rcases HOL.out with ⟨-, h⟩ | ⟨h, -⟩
                            ·unfold Hid; rw [h]; exact HM2.out
                            ·omega
                           go_wp2
                           go_roundw
                           case rel => exact ⟨n + 1, S, E, by go_num, by omega, by omega, HNX.out, HB5.out, HOP5.out, HM5.out, HV5.out⟩
                           case measure => simp [intOf]; omega
                          ·obtain ⟨e, hel, hed, hnx⟩ : ∃ e, e.lab = (n : Int) ∧ e.dst = y ∧ outTo d x (n + 1) = outTo d x n ++ [e] := by
                            rcases HOL.out with ⟨h, -⟩ | ⟨-, h⟩
                            ·exact absurd h hy0
                            ·exact h
                           obtain ⟨yn, hyn⟩ : ∃ yn : Nat, (yn : Int) = y := ⟨y.toNat, by omega⟩
                           have hynN : yn < N := by omega
                           have hynP : yn < P.length := by rw [HPL.out]; exact hynN
                           obtain ⟨py, hpy⟩ : ∃ py, py = P[yn] := ⟨_, rfl⟩
                           have hbk : bkOf P y = py := by unfold bkOf; rw [← hyn, Int.toNat_natCast, hpy]; exact getD_eq hynP
                           have cy := HOP5.out.cellAt yn (by omega)
                           rw [List.getElem?_map, List.getElem?_eq_getElem hynP, Option.map_some, ← hpy] at cy
                           have HPLC := Lib.hid (l11Place_any G (.slice (some ⟨ga, 0, none⟩) SN ca) (S.map (bkOf P)) py w5 (SliceK.of_owns (enc := encI) (e := 2) encI_len HLO2.out.symm (by have h := HM5.out.od.left; rw [HLO2.out] at h; rw [flat_encI]; exact h)))
                           rw [← hbk, placeI_rows, hbk] at HPLC
                           obtain ⟨pn, hpn⟩ : ∃ pn, pn = mplace P S y := ⟨_, rfl⟩
                           rw [← hpn, ← HSN.out] at HPLC
                           have HNX : Hid (mrow P i (outTo d x (n + 1)) S0 = mstep P i ⟨S, E⟩ e) := by unfold Hid; rw [hnx, mrow_snoc, HM2.out]
                           have HEL := Lib.hid hel
                           have HED := Lib.hid hed
                           have HPN := Lib.hid hpn
                           have HBK := Lib.hid hbk
                           have hgP5 : gP < w5.heap.size := (HOP5.out.lt gP rfl).2
                           rw [← hyn] at hy0 ⊢
                           have HYN := Lib.hid hyn
                           clear hel hed hnx hpy hbk hpn HOL HGX hyn
                           go_wp2_with fail
                           refine Calls.mono HPLC.out ?_
                           rintro e9 w6 ⟨rfl, hb6⟩
                           have HB6 := Lib.hid (HB5.out.trans (hb6.mono (by have := HB5.out.size; have := HSA.out; have := HB.out; omega)))
                           have HM6 := Lib.hid (HM5.out.below hb6)
                           have HV6 := Lib.hid (HV5.out.below hb6)
                           have HOP6 := Lib.hid (owns_below HOP5.out hb6)
                           have hs6 := hb6.size
                           have cy6 := keeps hb6 hgP5 cy
                           clear hb6 cy HPLC
                           by_cases hpl2 : pn < SN
                           ·rw [if_pos hpl2]
                            have HST : Hid (mstep P i ⟨S, E⟩ e = ⟨S, E ++ [⟨(i : Int), (n : Int), (pn : Int)⟩]⟩) := by
                             have h := mstep_old (p := P) (i := i) (st := ⟨S, E⟩) (e := e) (by show mplace P S e.dst < S.length; rw [HED.out, ← HPN.out, ← HSN.out]; exact hpl2)
                             unfold Hid
                             rw [h, HEL.out]
                             show MNet.mk S (E ++ [⟨(i : Int), (n : Int), ((mplace P S e.dst : Nat) : Int)⟩]) = _
                             rw [HED.out, ← HPN.out]
                            have HED6 : Hid (w6.ownsRow G 78 3 (.slice ge EN ce) EN (E.flatMap encE)) := by
                             have h := HM6.out.ed
                             unfold Hid; rw [HEN.out]; rw [HEN.out] at h; exact h
                            have hpn0 : ¬ (pn : Int) < 0 := by omega
                            clear cy6
                            go_wp2_with (at_builtin; refine wpList_append_own_at _ rfl _ _ 30 rfl G 78 i2 (.agg #[.int .i64 0, .int .i64 0, .int .i64 0]) 3 24 Tryz.underlying30 hi2 hz20 hz21 hz22 rfl (by decide) _ EN _ rfl (HED6.out.alloc _) ⟨w6.heap.size, 0, none⟩ 1 1 [.int .i64 i, .int .i64 n, .int .i64 pn] rfl rfl ?c1 ?c2 ?c3 ?c4 ?c5 ?_)
                            case c1 => have := three_new w6 ⟨(i : Int), (n : Int), (pn : Int)⟩ 78; simpa [encE] using this
                            case c2 => first | (intro u hu; simp at hu; rcases hu with rfl | rfl | rfl <;> rfl) | exact ⟨rfl, rfl, rfl⟩ | simp [Value.oneCell']
                            case c3 => first | omega | (simp [maxLen]; omega)
                            case c4 => first | omega | (simp; omega)
                            case c5 => first | omega | (simp; omega)
                            intro v9 w9 ho9 hg9 _ _
                            have hal9 : Below w6.heap.size w6 (w6.alloc (.cells #[.int .i64 i, .int .i64 n, .int .i64 pn] 78)) := (Below.refl _ _).alloc (Nat.le_refl _) _
                            have HM9 := Lib.hid (MMem.edge (e := ⟨(i : Int), (n : Int), (pn : Int)⟩) HM6.out hal9 hg9 (by rw [← HEN.out]; simpa [encE] using ho9))
                            have HB9 : Hid (Below B wA w9) := (HB6.out.alloc (by have := HB6.out.size; have := HSA.out; have := HB.out; omega) _).grown hg9 (by simp; omega) (fun b e => Nat.le_trans hBG (HED6.out.lt b e).1)
                            have HOP9 : Hid (w9.ownsRow B 2 1 (.slice (some ⟨gP, 0, none⟩) N cP) N (P.map (Value.int .i64))) := (owns_below HOP6.out hal9).kept hg9 (own_types (owns_below HOP6.out hal9) (owns_below HED6.out hal9) (by decide))
                            have HV9 := Lib.hid (HV6.out.growE hal9 hg9 (owns_below HED6.out hal9))
                            clear ho9 hg9 hal9
                            go_wp2
                            go_roundw
                            case rel => exact ⟨n + 1, S, E ++ [⟨(i : Int), (n : Int), (pn : Int)⟩], by go_num, by omega, by omega, by rw [HNX.out, HST.out], HB9.out, HOP9.out, HM9.out, HV9.out⟩
                            case measure => simp [intOf]; omega
                           ·rw [if_neg hpl2]
                            have hpnS : pn = SN := by have h := mplace_le P S y; rw [← HPN.out, ← HSN.out] at h; omega
                            have HST : Hid (mstep P i ⟨S, E⟩ e = ⟨S ++ [y], E ++ [⟨(i : Int), (n : Int), (SN : Int)⟩]⟩) := by
                             have h := mstep_new (p := P) (i := i) (st := ⟨S, E⟩) (e := e) (by show ¬ mplace P S e.dst < S.length; rw [HED.out, ← HPN.out, ← HSN.out]; exact hpl2)
                             unfold Hid
                             rw [h, HEL.out, HED.out]
                             show MNet.mk (S ++ [y]) (E ++ [⟨(i : Int), (n : Int), ((S.length : Nat) : Int)⟩]) = _
                             rw [← HSN.out]
                            have HED6 : Hid (w6.ownsRow G 78 3 (.slice ge EN ce) EN (E.flatMap encE)) := by
                             have h := HM6.out.ed
                             unfold Hid; rw [HEN.out]; rw [HEN.out] at h; exact h
                            have hal6 : Below w6.heap.size w6 (w6.alloc (.cells #[.int .i64 py] 2)) := (Below.refl _ _).alloc (Nat.le_refl _) _
                            have HL1 : Hid ((w6.alloc (.cells #[.int .i64 py] 2)).ownsRow G 2 1 (.slice (some ⟨ga, 0, none⟩) SN ca) SN ((S.map (bkOf P)).map (Value.int .i64))) := by
                             have h := HM6.out.od.left
                             rw [HLO2.out] at h
                             exact h.alloc _
                            have hG6 : G < w6.heap.size := by omega
                            go_wp2_with (at_builtin; refine wpList_append_own_at _ rfl _ _ 26 rfl G 2 i1 (.int .i64 0) 1 8 Tryz.underlying26 hi1 hz10 hz11 hz12 rfl (by decide) _ SN _ rfl HL1.out ⟨w6.heap.size, 0, none⟩ 1 1 [.int .i64 py] rfl rfl (World.news_of_block (cs := #[.int .i64 py]) (t := 2) (fr := (0, 0)) (heap_alloc_new _ _)) ?k2 ?k3 ?k4 ?k5 ?_)
                            case k2 => first | (intro u hu; simp at hu; subst hu; rfl) | rfl
                            case k3 => first | (simp [maxLen]; omega) | omega
                            case k4 => omega
                            case k5 => first | omega | (simp; omega)
                            intro v7 w7 ho7 hg7 _ ha7
                            have HB7 : Hid (Below B wA w7) := (HB6.out.alloc (by have := HB6.out.size; have := HSA.out; have := HB.out; omega) _).grown hg7 (by simp; omega) (fun b e => Nat.le_trans hBG (HL1.out.lt b e).1)
                            have HOD7 : Hid (OwnD G w7 v7 (.slice (some ⟨gb, 0, none⟩) SN cb) (.slice none 0 0) (.slice none 0 0) (S.map (bkOf P) ++ [py]) S [] []) := HM6.out.od.pushL hg7 (by show w7.ownsRow G 2 1 v7 ((S.map (bkOf P)).length + 1) ((S.map (bkOf P)).map (Value.int .i64) ++ [.int .i64 py]); rw [HLO2.out, List.map_map]; exact ho7) (by simpa using ha7)
                            have HED7 : Hid (w7.ownsRow G 78 3 (.slice ge EN ce) EN (E.flatMap encE)) := (owns_below HED6.out hal6).kept hg7 (own_types (owns_below HED6.out hal6) HL1.out (by decide))
                            have HOP7 : Hid (w7.ownsRow B 2 1 (.slice (some ⟨gP, 0, none⟩) N cP) N (P.map (Value.int .i64))) := (owns_below HOP6.out hal6).kept hg7 (.inr (by simp [Value.ownBlock]; omega))
                            have hs7 : w6.heap.size ≤ w7.heap.size := by have := hg7.size; simp at this; omega
                            have HV7 := Lib.hid (HV6.out.growO hal6 hg7 HL1.out (by simpa using ha7))
                            obtain ⟨a7, c7, rfl, -, -⟩ := owns_slice ho7
                            clear ho7 hg7 ha7 HL1 cy6 hal6
                            have hal7 : Below w7.heap.size w7 (w7.alloc (.cells #[.int .i64 yn] 2)) := (Below.refl _ _).alloc (Nat.le_refl _) _
                            have HL2 : Hid ((w7.alloc (.cells #[.int .i64 yn] 2)).ownsRow G 2 1 (.slice (some ⟨gb, 0, none⟩) SN cb) SN (S.map (Value.int .i64))) := by
                             have h := HOD7.out.right
                             rw [← HSN.out] at h
                             exact h.alloc _
                            go_wp2_with (at_builtin; refine wpList_append_own_at _ rfl _ _ 26 rfl G 2 i1 (.int .i64 0) 1 8 Tryz.underlying26 hi1 hz10 hz11 hz12 rfl (by decide) _ SN _ rfl HL2.out ⟨w7.heap.size, 0, none⟩ 1 1 [.int .i64 yn] rfl rfl (World.news_of_block (cs := #[.int .i64 yn]) (t := 2) (fr := (0, 0)) (heap_alloc_new _ _)) ?k2 ?k3 ?k4 ?k5 ?_)
                            case k2 => first | (intro u hu; simp at hu; subst hu; rfl) | rfl
                            case k3 => first | (simp [maxLen]; omega) | omega
                            case k4 => omega
                            case k5 => first | omega | (simp; omega)
                            intro v8 w8 ho8 hg8 _ ha8
                            have HB8 : Hid (Below B wA w8) := (HB7.out.alloc (by have := HB7.out.size; have := HSA.out; have := HB.out; omega) _).grown hg8 (by simp; omega) (fun b e => Nat.le_trans hBG (HL2.out.lt b e).1)
                            have HOD8 : Hid (OwnD G w8 (.slice a7 (SN + 1) c7) v8 (.slice none 0 0) (.slice none 0 0) (S.map (bkOf P) ++ [py]) (S ++ [(yn : Int)]) [] []) := HOD7.out.pushR hg8 (by rw [← HSN.out]; exact ho8) (by simpa using ha8)
                            have HED8 : Hid (w8.ownsRow G 78 3 (.slice ge EN ce) EN (E.flatMap encE)) := (owns_below HED7.out hal7).kept hg8 (own_types (owns_below HED7.out hal7) HL2.out (by decide))
                            have HOP8 : Hid (w8.ownsRow B 2 1 (.slice (some ⟨gP, 0, none⟩) N cP) N (P.map (Value.int .i64))) := (owns_below HOP7.out hal7).kept hg8 (.inr (by simp [Value.ownBlock]; omega))
                            have hs8 : w7.heap.size ≤ w8.heap.size := by have := hg8.size; simp at this; omega
                            have HV8 := Lib.hid (HV7.out.growS hal7 hg8 HL2.out (by simpa using ha8))
                            obtain ⟨a8, c8, rfl, -, -⟩ := owns_slice ho8
                            have HM8 : Hid (MMem G w8 (.slice a7 (SN + 1) c7) (.slice a8 (SN + 1) c8) (.slice ge EN ce) P ⟨S ++ [y], E⟩) := by
                             have h := HOD8.out
                             rw [HYN.out] at h
                             refine ⟨?_, by have h9 := HED8.out; rw [HEN.out] at h9 ⊢; exact h9⟩
                             show OwnD G w8 _ _ _ _ ((S ++ [y]).map (bkOf P)) (S ++ [y]) [] []
                             rw [List.map_append, List.map_singleton, HBK.out]
                             exact h
                            clear ho8 hg8 ha8 HL2 HOD7 HOD8 hal7 HB7 HED7 HOP7
                            go_wp2_with (at_builtin; refine wpList_append_own_at _ rfl _ _ 30 rfl G 78 i2 (.agg #[.int .i64 0, .int .i64 0, .int .i64 0]) 3 24 Tryz.underlying30 hi2 hz20 hz21 hz22 rfl (by decide) _ EN _ rfl (HED8.out.alloc _) ⟨w8.heap.size, 0, none⟩ 1 1 [.int .i64 i, .int .i64 n, .int .i64 SN] rfl rfl ?c1 ?c2 ?c3 ?c4 ?c5 ?_)
                            case c1 => have := three_new w8 ⟨(i : Int), (n : Int), (SN : Int)⟩ 78; simpa [encE] using this
                            case c2 => first | (intro u hu; simp at hu; rcases hu with rfl | rfl | rfl <;> rfl) | exact ⟨rfl, rfl, rfl⟩ | simp [Value.oneCell']
                            case c3 => first | omega | (simp [maxLen]; omega)
                            case c4 => first | omega | (simp; omega)
                            case c5 => first | omega | (simp; omega)
                            intro v9 w9 ho9 hg9 _ _
                            have hal9 : Below w8.heap.size w8 (w8.alloc (.cells #[.int .i64 i, .int .i64 n, .int .i64 SN] 78)) := (Below.refl _ _).alloc (Nat.le_refl _) _
                            have HM9 := Lib.hid (MMem.edge (e := ⟨(i : Int), (n : Int), (SN : Int)⟩) HM8.out hal9 hg9 (by rw [← HEN.out]; simpa [encE] using ho9))
                            have HB9 : Hid (Below B wA w9) := (HB8.out.alloc (by have := HB8.out.size; have := HSA.out; have := HB.out; omega) _).grown hg9 (by simp; omega) (fun b e => Nat.le_trans hBG (HED8.out.lt b e).1)
                            have HOP9 : Hid (w9.ownsRow B 2 1 (.slice (some ⟨gP, 0, none⟩) N cP) N (P.map (Value.int .i64))) := (owns_below HOP8.out hal9).kept hg9 (own_types (owns_below HOP8.out hal9) (owns_below HED8.out hal9) (by decide))
                            have HV9 := Lib.hid (HV8.out.growE hal9 hg9 (owns_below HED8.out hal9))
                            clear ho9 hg9 hal9
                            go_wp2
                            go_roundw
                            case rel => exact ⟨n + 1, S ++ [y], E ++ [⟨(i : Int), (n : Int), (SN : Int)⟩], by go_num, by omega, by omega, by rw [HNX.out, HST.out], HB9.out, HOP9.out, HM9.out, HV9.out⟩
                            case measure => simp [intOf]; omega
                         ·obtain rfl : n = LN := by omega
                          have HNX : Hid (vAt d P (i + 1) = ⟨S, E⟩) := by
                           unfold Hid
                           have h1 := outTo_all (d := d) (x := x) (fun e he => by
                            obtain ⟨j, hj, rfl⟩ := List.mem_iff_getElem.1 he
                            exact (HV.out.edge j hj).l1)
                           rw [vAt_some (show (vAt d P i).rows[i]? = some x from by rw [← HS0.out]; exact HXX.out), ← HS0.out, ← h1, ← HLN.out]
                           exact HM2.out
                          have HSNS := HSN.out
                          clear hbw
                          go_wp2
                          go_roundw
                          case rel => exact ⟨i + 1, v2, by go_num, by rw [HNX.out]; show VD G ob _ _ _ v2 _ ((S.take (i + 1)).map (bkOf V)); rw [HTK.out]; exact HVDn.out, by rw [HNX.out]; show i + 1 ≤ S.length; omega, HBL.out, HOP1.out, by rw [HNX.out]; exact HMM.out⟩
                          case measure => simp [intOf]; omega
                      exact AllReadyH.nil
                   exact AllReadyH.nil
                 exact AllReadyH.nil
               exact AllReadyH.nil
  ·obtain rfl : i = R := by omega
   have HDN : Hid (VDone d P S0) := ⟨i, hS0.symm, by rw [← hR]; exact Nat.le_refl _⟩
   have HUP : Hid (Up S0.edges) := by unfold Hid; rw [hS0]; exact (vAt_up HU.out i).1
   have hxs : (S0.rows.take i).map (bkOf V) = S0.rows.map (bkOf V) := by rw [hR, List.take_length]
   rw [hxs] at hvd
   obtain ⟨va, vc, hvv, -, -⟩ := owns_slice hvd.row
   rw [List.length_map, ← hR] at hvv
   subst hvv
   have HVE := Lib.hid hvd
   clear hxs hvd HVD
   obtain ⟨EN, hEN⟩ : ∃ EN, EN = S0.edges.length := ⟨_, rfl⟩
   obtain ⟨ge, ce, rfl, -, -⟩ := owns_slice hmm.ed
   have hed := hmm.ed
   rw [← hEN] at hed ⊢
   have hbw : Below w.heap.size w wC := HBA.out.trans (hbl.mono (by have := HB.out; have := HRB.out; omega))
   have q2 := keeps hbw hpl HQ2.out
   obtain ⟨tb, htb⟩ : ∃ tb, tb = wC.heap.size := ⟨_, rfl⟩
   obtain ⟨wT, hwT⟩ : ∃ wT, wT = wC.alloc (.cells #[.int .i64 i, .int .i64 0, .slice al LN cl, .slice ge EN ce] 32) := ⟨_, rfl⟩
   have hbT : Below wC.heap.size wC wT := by rw [hwT]; exact (Below.refl _ _).alloc (Nat.le_refl _) _
   have hT : Blk wT tb [.int .i64 i, .int .i64 0, .slice al LN cl, .slice ge EN ce] 32 := by rw [hwT, htb]; exact Blk.new wC _ _
   have hbwT : Below w.heap.size w wT := hbw.trans (hbT.mono hbw.size)
   have hptr : LtsPtr 0 wT tb (⟨(S0.rows.length : Int), 0, d.labels, S0.edges⟩ : Lts) := by
    refine ⟨_, _, hT.lt, by rw [hT.cell 0 rfl, ← hR], hT.cell 1 rfl, hT.cell 2 rfl, hT.cell 3 rfl, ?_, ?_⟩
    ·have h : SliceK 1 encS lo w (.slice al LN cl) d.labels := ⟨al, cl, by rw [HLN.out], by rw [← HLN.out]; exact hln, hlc, HLR.out⟩
     exact (h.below hbwT).mono (Nat.zero_le _)
    ·exact SliceK.of_owns (enc := encE) (e := 78) encE_len hEN (own_lower (owns_below hed hbT) (Nat.zero_le _))
   have HUS := Lib.hid (l11Used_any tb 0 (⟨(S0.rows.length : Int), 0, d.labels, S0.edges⟩ : Lts) wT (fun j hj => by
    have := (hG0.edges _ (List.getElem_mem hj)).2.1
    exact ⟨by omega, this.2⟩) (by show S0.edges.length ≤ 800; omega) hptr)
   have HBT := Lib.hid hbwT
   have HWT := Lib.hid hwT
   have HTB := Lib.hid htb
   have HVT := Lib.hid (HVE.out.below hbT)
   have HR2 : Hid (Blk wT rb [.int .i64 0, .int .i64 0, .slice none 0 0, .slice none 0 0, .slice none 0 0] 34) := by
    have h := HR.out.belowB hbl (by have := HB.out; omega)
    exact h.below hbT
   have HGG0 := Lib.hid hG0
   have HRL : Hid (((i : Nat) : Int) = ((S0.rows.map ([·])).length : Int)) := by unfold Hid; rw [List.length_map, ← hR]
   clear hS0 hG0 hmm hbl hop hR hed hbw htb hwT hbT hT hbwT hptr hEN
   go_wp2_with fail
   rw [← HWT.out]
   try rw [← HTB.out]
   refine Calls.mono HUS.out ?_
   rintro e w9 ⟨hb9, lv9, ev9, R9, rfl, hol9, hoe9, hmk9⟩
   obtain ⟨la9, lc9, rfl, -, -⟩ := owns_slice hol9
   obtain ⟨ea9, ec9, rfl, -, -⟩ := owns_slice hoe9
   have hmade := min_made HV.out HGG0.out HUP.out rfl hmk9
   have HMD := Lib.hid hmade
   have HV9 := Lib.hid (HVT.out.below hb9)
   have hR9 : Blk w9 rb [.int .i64 0, .int .i64 0, .slice none 0 0, .slice none 0 0, .slice none 0 0] 34 := HR2.out.below hb9
   have HR99 := Lib.hid hR9
   have r0 := hR9.cell 0 rfl
   have r1 := hR9.cell 1 rfl
   have r2 := hR9.cell 2 rfl
   have r3 := hR9.cell 3 rfl
   have s0 := hR9.frozen 0
   have s1 := hR9.frozen 1
   have s2 := hR9.frozen 2
   have s3 := hR9.frozen 3
   have r4 := hR9.cell 4 rfl
   have s4 := hR9.frozen 4
   have o0 := HV9.out.blk.cell 0 rfl
   have o1 := HV9.out.blk.cell 1 rfl
   have o2 := HV9.out.blk.cell 2 rfl
   have o3 := HV9.out.blk.cell 3 rfl
   have o4 := HV9.out.blk.cell 4 rfl
   have g0 := HV9.out.blk.frozen 0
   have g1 := HV9.out.blk.frozen 1
   have g2 := HV9.out.blk.frozen 2
   have g3 := HV9.out.blk.frozen 3
   have hne : rb ≠ ob := by have := HB.out; omega
   have hszT : w.heap.size ≤ wT.heap.size := HBT.out.size
   have HB9 := Lib.hid (HBT.out.trans (hb9.mono hszT))
   have HOL9 := Lib.hid (own_lower hol9 hszT)
   have HOE9 := Lib.hid (own_lower hoe9 hszT)
   clear hb9 hol9 hoe9 hmk9 hmade hR9 q2
   go_wp2
   have hrbw : w.heap.size ≤ rb := by rw [HRB.out]; exact Nat.le_refl _
   have hobw : w.heap.size ≤ ob := by have := HRB.out; have := HB.out; omega
   have hRO := ((((HR99.out.setOther ⟨ob, 0, none⟩ (.int .i64 ((S0.rows.length : Nat) : Int)) hne).setOther ⟨ob, 1, none⟩ (.int .i64 0) hne).setOther ⟨ob, 2, none⟩ (.slice la9 (labSet (tauT :: usedTs ⟨(S0.rows.length : Int), 0, d.labels, S0.edges⟩ S0.edges.length)).length lc9) hne).setOther ⟨ob, 3, none⟩ (.slice ea9 R9.length ec9) hne)
   refine bodyPost_ret (svi_results rfl (((((hRO.set 0 _).set 1 _).set 2 _).set 3 _).set 4 _)) rfl ?_
   refine ⟨((((((((HB9.out.setCell hobw _).setCell hobw _).setCell hobw _).setCell hobw _).setCell hrbw _).setCell hrbw _).setCell hrbw _).setCell hrbw _).setCell hrbw _, S0, sysOf d (mNet S0), _, _, .slice va i vc, by rw [show (sysOf d (mNet S0)).states = ((S0.rows.length : Nat) : Int) from by show (((S0.rows.map ([·])).length : Nat) : Int) = _; rw [List.length_map]]; rfl, ⟨by rw [← HPE.out]; exact HDN.out, rfl⟩, ⟨?_, ?_⟩, ?_⟩
   ·rw [← HMD.out.1]
    exact own5M hRO (own4M HV9.out.blk HOL9.out (by decide)) (by decide)
   ·rw [← HMD.out.2]
    exact own5M hRO (own4M HV9.out.blk HOE9.out (by decide)) (by decide)
   ·have h := HV9.out.row
    rw [List.length_map] at h
    exact own5M hRO (own4M HV9.out.blk (own_lower h (by have := HGG.out; omega)) (by decide)) (by decide)

end Go.Proofs.YtjghfgaincnegaaGreatDoor
