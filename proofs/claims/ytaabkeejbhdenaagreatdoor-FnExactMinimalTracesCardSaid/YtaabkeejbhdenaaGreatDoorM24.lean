/-
  The reference's l12Minimal: the search over the blocks of the partition at rest.
  The reference's MinimalTraces.
  The functions of the laws that mark texts, edges, a system: what they turn.
  What a size that fits says of a system's parts.
  What the joining walks of the exact laws share: copies of systems, boxes, which blocks a mark can turn.
-/
import Derived.Test.YtaabkeejbhdenaaGreatDoorM23
import Derived.Test.YtaabkeejbhdenaaGreatDoorM19
import Derived.Test.YtaabkeejbhdenaaGreatDoorM18
import Derived.Test.YtaabkeejbhdenaaGreatDoorM14
import Derived.Deep.AppendLies
import Derived.Test.YtaabkeejbhdenaaGreatDoorM15
namespace Go.Proofs.YtaabkeejbhdenaaGreatDoor
open Go Go.RowKit

theorem info_int64M : (Tryz.prog.info? 2).map (fun i => (i.zero, i.size, i.bytes)) = some (some (.int .i64 0), 1, 8) := by kernel_rfl
theorem info_edgeM : (Tryz.prog.info? 73).map (fun i => (i.zero, i.size, i.bytes)) = some (some (.agg #[.int .i64 0, .int .i64 0, .int .i64 0]), 3, 24) := by kernel_rfl
theorem smi_results {w : World} {b : Nat} {v0 v1 v2 v3 : Value} {tmps : Array Value} (hc : tmps.getD 2 undef = .pointer (some ⟨b, 0, none⟩)) (hb : Blk w b [v0, v1, v2, v3] 29) :
  (results Tryz.f22 tmps).run Tryz.prog w = .ok (.agg #[v0, v1, v2, v3]) w := by
 have h0 := hb.cell 0 rfl
 have h1 := hb.cell 1 rfl
 have h2 := hb.cell 2 rfl
 have h3 := hb.cell 3 rfl
 simp only [Array.getD_eq_getD_getElem?] at hc
 simp [results, Tryz.results22, go_sem, hc, h0, h1, h2, h3, Result.andThen]
/-- The search's three slices. -/
structure MMem (B : Nat) (w : World) (vo vs ve : Value) (P : List Int) (st : MNet) : Prop where
 od : OwnD B w vo vs (.slice none 0 0) (.slice none 0 0) (st.rows.map (bkOf P)) st.rows [] []
 ed : w.ownsRow B 73 3 ve st.edges.length (st.edges.flatMap encE)
theorem MMem.below {B : Nat} {w w' : World} {vo vs ve : Value} {P : List Int} {st : MNet} (h : MMem B w vo vs ve P st) (hb : Below w.heap.size w w') : MMem B w' vo vs ve P st := ⟨h.od.below hb, owns_below h.ed hb⟩
theorem MMem.edge {B : Nat} {w w1 w2 : World} {vo vs ve ve' : Value} {P : List Int} {S : List Int} {E : List Edge} {e : Edge} (h : MMem B w vo vs ve P ⟨S, E⟩) (hb : Below w.heap.size w w1) (hg : w1.grownBy w2 ve.ownBlock)
  (ho : w2.ownsRow B 73 3 ve' (E.length + 1) (E.flatMap encE ++ encE e)) : MMem B w2 vo vs ve' P ⟨S, E ++ [e]⟩ := by
 have h1 := h.below hb
 refine ⟨⟨h1.od.left.kept hg (own_types h1.od.left h1.ed (by decide)), h1.od.right.kept hg (own_types h1.od.right h1.ed (by decide)), World.ownsRow_nil _ _ _ _, World.ownsRow_nil _ _ _ _, h1.od.far, h1.od.far2⟩, ?_⟩
 show w2.ownsRow B 73 3 ve' (E ++ [e]).length ((E ++ [e]).flatMap encE)
 rw [List.length_append, List.flatMap_append]
 simpa using ho

set_option maxRecDepth 100000 in
set_option maxHeartbeats 8000000 in
theorem l12Minimal_any (p lo : Nat) (d : Lts) (w : World) (hv : Valid d) (hs : Single d) (hu : Up d.edges) (hp : LtsPtr lo w p d) :
  Calls Tryz.prog 22 #[.pointer (some ⟨p, 0, none⟩)] w fun e w' => Below w.heap.size w w' ∧ ∃ r lv ev, e = .returned (.agg #[.int .i64 r.states, .int .i64 r.initial, lv, ev]) ∧ MinSys d r ∧ OwnLts w.heap.size w' lv ev r := by
 have HV := Lib.hid hv
 have HSI := Lib.hid hs
 have HU := Lib.hid hu
 have hst0 := hv.st0
 have hst1 := hv.st1
 have hlp := hv.labels.pos
 have hl12 := hv.labels.most
 obtain ⟨rb, hrb⟩ : ∃ rb, rb = w.heap.size := ⟨_, rfl⟩
 obtain ⟨wA, hwA⟩ : ∃ wA, wA = w.alloc (.cells #[.int .i64 0, .int .i64 0, .slice none 0 0, .slice none 0 0] 29) := ⟨_, rfl⟩
 have hbA : Below w.heap.size w wA := by rw [hwA]; exact (Below.refl _ _).alloc (Nat.le_refl _) _
 have hR : Blk wA rb [.int .i64 0, .int .i64 0, .slice none 0 0, .slice none 0 0] 29 := by rw [hwA, hrb]; exact Blk.new w _ _
 have hsA : wA.heap.size = rb + 1 := by rw [hwA, hrb]; simp
 have HCL := Lib.hid (l12Classes_any p lo d wA hv (hp.below hbA))
 have HP := Lib.hid hp
 obtain ⟨lv, ev, hpl, -, -, q2, -, hl, -⟩ := hp
 obtain ⟨al, cl, rfl, hln, hlc, hlrow⟩ := hl
 obtain ⟨LN, hLN⟩ : ∃ LN, LN = d.labels.length := ⟨_, rfl⟩
 rw [← hLN] at hln q2 hlp hl12
 have HQ2 := Lib.hid q2
 have HLR := Lib.hid hlrow
 have HLN := Lib.hid hLN
 obtain ⟨P, hP⟩ : ∃ P, P = restP d := ⟨_, rfl⟩
 have hP40 : ∀ x ∈ P, 0 ≤ x ∧ x < (40 : Int) := by rw [hP]; exact restP_low hv
 obtain ⟨N, hN⟩ : ∃ N : Nat, (N : Int) = d.states := ⟨d.states.toNat, by omega⟩
 have hPl : P.length = N := by have := restP_len hv; rw [← hP] at this; omega
 rw [← hP] at HCL
 rw [← hN] at hst0 hst1
 have HPE := Lib.hid hP
 have HP40 := Lib.hid hP40
 have HN := Lib.hid hN
 have HPL := Lib.hid hPl
 have HR := Lib.hid hR
 have HBA := Lib.hid hbA
 have HWA := Lib.hid hwA
 have HRB := Lib.hid hrb
 have HSA := Lib.hid hsA
 obtain ⟨i1, hi1, hz10, hz11, hz12⟩ := info_parts info_int64M
 obtain ⟨i2, hi2, hz20, hz21, hz22⟩ := info_parts info_edgeM
 clear hv hs hu hrb hwA hbA hR hsA q2 hlrow hLN hP hP40 hN hPl
 go_enter Tryz.func22, Tryz.ntmps22
 go_wp2_with fail
 rw [← HWA.out]
 try rw [← HRB.out]
 refine Calls.mono HCL.out ?_
 rintro e w2 ⟨vP, rfl, hb2, hoP⟩
 rw [HPL.out, HSA.out] at hoP
 obtain ⟨gP, cP, rfl, hgP, hgPw⟩ := own_someC hoP (by omega)
 obtain ⟨B, hB⟩ : ∃ B, B = rb + 1 := ⟨_, rfl⟩
 rw [← hB] at hoP hgP
 have hb2B : Below B wA w2 := by rw [hB, ← HSA.out]; exact hb2
 have hs2 : B ≤ w2.heap.size := by have := hb2.size; have := HSA.out; omega
 have HB := Lib.hid hB
 have HOP := Lib.hid hoP
 have HB2 := Lib.hid hb2B
 have cP0 := hoP.cellAt 0 (by omega)
 have h0P : 0 < P.length := by rw [HPL.out]; omega
 rw [List.getElem?_map, List.getElem?_eq_getElem h0P] at cP0
 obtain ⟨z0, hz0⟩ : ∃ z0, z0 = P[0] := ⟨_, rfl⟩
 have hzb : bkOf P 0 = z0 := by unfold bkOf; rw [hz0]; exact getD_eq h0P
 rw [← hz0] at cP0
 simp only [Option.map_some] at cP0
 obtain ⟨G, hG⟩ : ∃ G, G = w2.heap.size := ⟨_, rfl⟩
 obtain ⟨W, hW⟩ : ∃ W, W = ((w2.alloc (.cells #[.int .i64 z0] 2)).alloc (.cells #[.int .i64 0] 2)).alloc (.cells #[] 73) := ⟨_, rfl⟩
 have hbW : Below w2.heap.size w2 W := by rw [hW]; exact (((Below.refl _ _).alloc (Nat.le_refl _) _).alloc (by simp) _).alloc (by simp; omega) _
 have HMM : Hid (MMem G W (.slice (some ⟨G, 0, none⟩) 1 1) (.slice (some ⟨G + 1, 0, none⟩) 1 1) (.slice (some ⟨G + 1 + 1, 0, none⟩) 0 0) P ⟨[0], []⟩) := by
  have r1 := World.ownsRow_lit (base := w2.heap.size) (e := 2) (size := 1) w2 #[.int .i64 z0] 1 (Nat.le_refl _) (by decide) rfl
  have r2 := World.ownsRow_lit (base := w2.heap.size) (e := 2) (size := 1) (w2.alloc (.cells #[.int .i64 z0] 2)) #[.int .i64 0] 1 (by first | (simp; done) | (simp; omega)) (by decide) rfl
  have r3 := World.ownsRow_lit (base := w2.heap.size) (e := 73) (size := 3) ((w2.alloc (.cells #[.int .i64 z0] 2)).alloc (.cells #[.int .i64 0] 2)) #[] 0 (by first | (simp; done) | (simp; omega)) (by simp [maxLen]) rfl
  simp only [World.size_alloc] at r2 r3
  unfold Hid
  rw [hW, hG]
  refine ⟨⟨?_, (r2.alloc _), World.ownsRow_nil _ _ _ _, World.ownsRow_nil _ _ _ _, by simp [Value.ownBlock], by simp [Value.ownBlock]⟩, r3⟩
  show World.ownsRow _ w2.heap.size 2 1 _ [bkOf P 0].length ([bkOf P 0].map (Value.int .i64))
  rw [hzb]
  exact (r1.alloc _).alloc _
 have HBW : Hid (Below B wA W) := hb2B.trans (hbW.mono hs2)
 have hsW : B ≤ W.heap.size := by have := HBW.out.size; have := HSA.out; have := HB.out; omega
 have HOPW := Lib.hid (owns_below hoP hbW)
 have HWW := Lib.hid hW
 have HGG := Lib.hid hG
 have hgPW : gP < W.heap.size := by have := hbW.size; omega
 have hgPG : gP < G := by rw [hG]; exact hgPw
 have hBG : B ≤ G := by rw [hG]; exact hs2
 clear hb2 hb2B hoP hz0 hzb hW hG hbW hB h0P
 go_wp2
 rw [← HWW.out]
 try rw [← HGG.out]
 go_loopw [4, 5, 6, 7] (fun v4 v5 v6 v7 wr => ∃ i : Nat, v7 = .int .i64 i ∧ i ≤ (mAt d P i).rows.length ∧ Below B wA wr ∧ wr.ownsRow B 2 1 (.slice (some ⟨gP, 0, none⟩) N cP) N (P.map (Value.int .i64)) ∧ MMem G wr v4 v5 v6 P (mAt d P i)) (fun _ _ _ v7 _ => 64 - (intOf v7).toNat)
 case atStart => exact ⟨0, rfl, Nat.zero_le _, HBW.out, HOPW.out, HMM.out⟩
 case round =>
  clear HMM HOPW HBW cP0
  obtain ⟨i, rfl, hi, hbl, hop, hmm⟩ := hrel
  obtain ⟨wC, rfl⟩ : ∃ wC : World, wC = wr := ⟨_, rfl⟩
  obtain ⟨S0, hS0⟩ : ∃ S0, S0 = mAt d P i := ⟨_, rfl⟩
  rw [← hS0] at hi hmm
  have hG0 : MGood d P S0 := by rw [hS0]; exact MGood.at HV.out HSI.out i
  have hE0 : S0.edges.length ≤ i * 11 := by rw [hS0]; exact mAt_edges11 HV.out HSI.out HU.out i
  have hR40 := hG0.few HP40.out
  obtain ⟨R, hR⟩ : ∃ R, R = S0.rows.length := ⟨_, rfl⟩
  have hlo : (S0.rows.map (bkOf P)).length = R := by rw [List.length_map, hR]
  obtain ⟨ga, ca, rfl, -, -⟩ := owns_slice hmm.od.left
  rw [hlo]
  rw [hlo] at hmm
  have HS0 := Lib.hid hS0
  have HG0 := Lib.hid hG0
  have HMM := Lib.hid hmm
  have HBL := Lib.hid hbl
  have HOP1 := Lib.hid hop
  have HR9 := Lib.hid hR
  rw [← hR] at hi hR40
  have hszC : B ≤ wC.heap.size := by have := hbl.size; have := HSA.out; have := HB.out; omega
  by_cases hlt : i < R
  ·have hir : i < S0.rows.length := by omega
   obtain ⟨x, hx⟩ : ∃ x, x = S0.rows[i] := ⟨_, rfl⟩
   have hxl := hG0.low x (by rw [hx]; exact List.getElem_mem _)
   have HXX : Hid (S0.rows[i]? = some x) := by unfold Hid; rw [List.getElem?_eq_getElem hir, hx]
   have hx0 : 0 ≤ x := hxl.1
   have HT1 : Hid (outTo d x 1 = []) := outTo_one fun e he => by
    obtain ⟨j, hj, rfl⟩ := List.mem_iff_getElem.1 he
    have := HV.out.edge j hj
    have := HSI.out.visible j hj
    have h9 := (HV.out.edge j hj).l0
    omega
   clear hS0 hG0 hmm hbl hop hR hx hxl hir
   go_wp2
   go_loopw [4, 5, 6, 8] (fun v4 v5 v6 v8 wr => ∃ (n : Nat) (S : List Int) (E : List Edge), v8 = .int .i64 n ∧ 1 ≤ n ∧ n ≤ LN ∧ mrow P i (outTo d x n) S0 = ⟨S, E⟩ ∧ Below B wA wr ∧ wr.ownsRow B 2 1 (.slice (some ⟨gP, 0, none⟩) N cP) N (P.map (Value.int .i64)) ∧ MMem G wr v4 v5 v6 P ⟨S, E⟩) (fun _ _ _ v8 _ => LN - (intOf v8).toNat)
   case atStart => exact ⟨1, S0.rows, S0.edges, rfl, Nat.le_refl _, by omega, by rw [HT1.out]; rfl, HBL.out, HOP1.out, HMM.out⟩
   case round =>
    clear HT1 HBL HOP1 HMM
    obtain ⟨n, S, E, rfl, hn1, hn2, hM, hbl, hop, hmm⟩ := hrel
    obtain ⟨wD, rfl⟩ : ∃ wD : World, wD = wr := ⟨_, rfl⟩
    have hGM : MGood d P ⟨S, E⟩ := by rw [← hM]; exact HG0.out.row _ (by rw [← HR9.out]; exact hlt) fun e he => out_ok HV.out HSI.out e (outTo_sub e he)
    have hS40 : S.length ≤ 40 := hGM.few HP40.out
    have hpre := mrow_prefix P i (outTo d x n) S0
    rw [hM] at hpre
    have hiS : i < S.length := by
     obtain ⟨⟨t, ht⟩, -⟩ := hpre
     have h1 : S.length = S0.rows.length + t.length := by have := congrArg List.length ht; simpa using this
     have := HR9.out
     omega
    have hxi : S.getD i 0 = x := by
     obtain ⟨⟨t, ht⟩, -⟩ := hpre
     have h1 : S = S0.rows ++ t := ht
     rw [h1, List.getD_eq_getElem?_getD, List.getElem?_append_left (by rw [← HR9.out]; exact hlt), HXX.out]
     rfl
    have hE500 : E.length ≤ 500 := by
     have h1 : E.length = S0.edges.length + (outTo d x n).length := hpre.2
     have h2 : (outTo d x n).length ≤ (outOf d x).length := List.length_filter_le _ _
     have h3 := mout_few HV.out HSI.out HU.out x
     omega
    obtain ⟨SN, hSN⟩ : ∃ SN, SN = S.length := ⟨_, rfl⟩
    obtain ⟨EN, hEN⟩ : ∃ EN, EN = E.length := ⟨_, rfl⟩
    have hlo2 : (S.map (bkOf P)).length = SN := by rw [List.length_map, hSN]
    obtain ⟨ga, ca, rfl, hga, hgaw⟩ := own_someC hmm.od.left (by show 0 < (S.map (bkOf P)).length; rw [hlo2]; omega)
    obtain ⟨gb, cb, rfl, hgb, hgbw⟩ := own_someC hmm.od.right (show 0 < S.length by omega)
    obtain ⟨ge, ce, rfl, -, -⟩ := owns_slice hmm.ed
    rw [hlo2, ← hSN, ← hEN]
    rw [hlo2, ← hSN, ← hEN] at hmm
    rw [← hSN] at hS40 hiS
    rw [← hEN] at hE500
    have hright := hmm.od.right
    rw [← hSN] at hright
    have cx := cell_num hright hiS
    rw [hxi] at cx
    have hbw : Below w.heap.size w wD := HBA.out.trans (hbl.mono (by have := HB.out; have := HRB.out; omega))
    have HM2 := Lib.hid hM
    have HSN := Lib.hid hSN
    have HEN := Lib.hid hEN
    have HLO2 := Lib.hid hlo2
    have HMM := Lib.hid hmm
    have HBL := Lib.hid hbl
    have HOP1 := Lib.hid hop
    have HBWD := Lib.hid hbw
    have hgaG : G ≤ ga := hga
    have hszG : G < wD.heap.size := by omega
    have hszD : B ≤ wD.heap.size := by have := hbl.size; have := HSA.out; have := HB.out; omega
    have hszw := hbw.size
    have q2 := keeps hbw hpl HQ2.out
    have hplD : p < wD.heap.size := by omega
    clear hM hGM hpre hxi hSN hEN hlo2 hmm hright hbl hop
    by_cases hnL : n < LN
    ·have hnd : n < d.labels.length := by rw [← HLN.out]; exact hnL
     obtain ⟨bl, ol, rfl, -, hblw, c1⟩ := HLR.out.one hnd
     simp only [encS, List.getElem?_cons_zero] at c1
     obtain ⟨l, hl⟩ : ∃ l, l = d.labels[n] := ⟨_, rfl⟩
     rw [← hl] at c1
     have c1' := keeps hbw hblw c1
     have hblD : bl < wD.heap.size := by omega
     obtain ⟨y, hy⟩ : ∃ y, y = goTo d x l := ⟨_, rfl⟩
     have HGX : Hid (∀ w', Below wD.heap.size wD w' → Calls Tryz.prog 48 #[.pointer (some ⟨p, 0, none⟩), .int .i64 x, .string l] w' fun e w'' => e = .returned (.int .i64 y) ∧ Below w'.heap.size w' w'') := fun w' hb => by
      rw [hy]; exact l12Go_any p lo d x l w' HV.out.edge (HP.out.below (HBWD.out.trans (hb.mono HBWD.out.size)))
     have hol := out_label HV.out HU.out hx0 hnd
     rw [← hl, ← hy] at hol
     have HOL := Lib.hid hol
     have hyN : y < (N : Int) := by rw [hy, HN.out]; exact (goTo_range HV.out x l).2
     have lx := later_cell hgbw cx
     have lq := later_cell hplD q2
     have lc := later_cell hblD c1'
     clear hl hy hol c1 c1' cx hnd hbw
     go_wp2
     refine wp_region_later (by kernel_rfl) (by kernel_rfl) ?_
     repeat (go_big_quiet_step ((go_at_call 48; exact later_call (HGX.out _ (Later.h _)))))
     refine wpQuiet_nil ?_
     intro _ hw9
     obtain ⟨nl, hw8⟩ := hw9
     subst hw8
     obtain ⟨w5, hw5⟩ : ∃ w5, w5 = nl.w := ⟨_, rfl⟩
     have hb5 : Below wD.heap.size wD w5 := by rw [hw5]; exact nl.h
     rw [← hw5]
     have HB5 := Lib.hid (HBL.out.trans (hb5.mono (by have := HBL.out.size; omega)))
     have HM5 := Lib.hid (HMM.out.below hb5)
     have HOP5 := Lib.hid (owns_below HOP1.out hb5)
     have hs5 := hb5.size
     clear lx lq lc hw5 hb5 q2
     clear nl
     by_cases hy0 : y < 0
     ·have HNX : Hid (mrow P i (outTo d x (n + 1)) S0 = ⟨S, E⟩) := by
       rcases HOL.out with ⟨-, h⟩ | ⟨h, -⟩
       ·unfold Hid; rw [h]; exact HM2.out
       ·omega
      go_wp2
      go_roundw
      case rel => exact ⟨n + 1, S, E, by go_num, by omega, by omega, HNX.out, HB5.out, HOP5.out, HM5.out⟩
      case measure => simp [intOf]; omega
     ·obtain ⟨e, hel, hed, hnx⟩ : ∃ e, e.lab = (n : Int) ∧ e.dst = y ∧ outTo d x (n + 1) = outTo d x n ++ [e] := by
       rcases HOL.out with ⟨h, -⟩ | ⟨-, h⟩
       ·exact absurd h hy0
       ·exact h
      obtain ⟨yn, hyn⟩ : ∃ yn : Nat, (yn : Int) = y := ⟨y.toNat, by omega⟩
      have hynN : yn < N := by omega
      have hynP : yn < P.length := by rw [HPL.out]; exact hynN
      obtain ⟨py, hpy⟩ : ∃ py, py = P[yn] := ⟨_, rfl⟩
      have hbk : bkOf P y = py := by unfold bkOf; rw [← hyn, Int.toNat_natCast, hpy]; exact getD_eq hynP
      have cy := HOP5.out.cellAt yn (by omega)
      rw [List.getElem?_map, List.getElem?_eq_getElem hynP, Option.map_some, ← hpy] at cy
      have HPLC := Lib.hid (l11Place_any G (.slice (some ⟨ga, 0, none⟩) SN ca) (S.map (bkOf P)) py w5 (SliceK.of_owns (enc := encI) (e := 2) encI_len HLO2.out.symm (by have h := HM5.out.od.left; rw [HLO2.out] at h; rw [flat_encI]; exact h)))
      rw [← hbk, placeI_rows, hbk] at HPLC
      obtain ⟨pn, hpn⟩ : ∃ pn, pn = mplace P S y := ⟨_, rfl⟩
      rw [← hpn, ← HSN.out] at HPLC
      have HNX : Hid (mrow P i (outTo d x (n + 1)) S0 = mstep P i ⟨S, E⟩ e) := by unfold Hid; rw [hnx, mrow_snoc, HM2.out]
      have HEL := Lib.hid hel
      have HED := Lib.hid hed
      have HPN := Lib.hid hpn
      have HBK := Lib.hid hbk
      have hgP5 : gP < w5.heap.size := (HOP5.out.lt gP rfl).2
      rw [← hyn] at hy0 ⊢
      have HYN := Lib.hid hyn
      clear hel hed hnx hpy hbk hpn HOL HGX hyn
      go_wp2_with fail
      refine Calls.mono HPLC.out ?_
      rintro e9 w6 ⟨rfl, hb6⟩
      have HB6 := Lib.hid (HB5.out.trans (hb6.mono (by have := HB5.out.size; have := HSA.out; have := HB.out; omega)))
      have HM6 := Lib.hid (HM5.out.below hb6)
      have HOP6 := Lib.hid (owns_below HOP5.out hb6)
      have hs6 := hb6.size
      have cy6 := keeps hb6 hgP5 cy
      clear hb6 cy HPLC
      by_cases hpl2 : pn < SN
      ·rw [if_pos hpl2]
       have HST : Hid (mstep P i ⟨S, E⟩ e = ⟨S, E ++ [⟨(i : Int), (n : Int), (pn : Int)⟩]⟩) := by
        have h := mstep_old (p := P) (i := i) (st := ⟨S, E⟩) (e := e) (by show mplace P S e.dst < S.length; rw [HED.out, ← HPN.out, ← HSN.out]; exact hpl2)
        unfold Hid
        rw [h, HEL.out]
        show MNet.mk S (E ++ [⟨(i : Int), (n : Int), ((mplace P S e.dst : Nat) : Int)⟩]) = _
        rw [HED.out, ← HPN.out]
       have HED6 : Hid (w6.ownsRow G 73 3 (.slice ge EN ce) EN (E.flatMap encE)) := by
        have h := HM6.out.ed
        unfold Hid; rw [HEN.out]; rw [HEN.out] at h; exact h
       have hpn0 : ¬ (pn : Int) < 0 := by omega
       clear cy6
       go_wp2_with (at_builtin; refine wpList_append_own_at _ rfl _ _ 27 rfl G 73 i2 (.agg #[.int .i64 0, .int .i64 0, .int .i64 0]) 3 24 Tryz.underlying27 hi2 hz20 hz21 hz22 rfl (by decide) _ EN _ rfl (HED6.out.alloc _) ⟨w6.heap.size, 0, none⟩ 1 1 [.int .i64 i, .int .i64 n, .int .i64 pn] rfl rfl ?c1 ?c2 ?c3 ?c4 ?c5 ?_)
       case c1 => have := three_new w6 ⟨(i : Int), (n : Int), (pn : Int)⟩ 73; simpa [encE] using this
       case c2 => first | (intro u hu; simp at hu; rcases hu with rfl | rfl | rfl <;> rfl) | exact ⟨rfl, rfl, rfl⟩ | simp [Value.oneCell']
       case c3 => first | omega | (simp [maxLen]; omega)
       case c4 => first | omega | (simp; omega)
       case c5 => first | omega | (simp; omega)
       intro v9 w9 ho9 hg9 _ _
       have hal9 : Below w6.heap.size w6 (w6.alloc (.cells #[.int .i64 i, .int .i64 n, .int .i64 pn] 73)) := (Below.refl _ _).alloc (Nat.le_refl _) _
       have HM9 := Lib.hid (MMem.edge (e := ⟨(i : Int), (n : Int), (pn : Int)⟩) HM6.out hal9 hg9 (by rw [← HEN.out]; simpa [encE] using ho9))
       have HB9 : Hid (Below B wA w9) := (HB6.out.alloc (by have := HB6.out.size; have := HSA.out; have := HB.out; omega) _).grown hg9 (by simp; omega) (fun b e => Nat.le_trans hBG (HED6.out.lt b e).1)
       have HOP9 : Hid (w9.ownsRow B 2 1 (.slice (some ⟨gP, 0, none⟩) N cP) N (P.map (Value.int .i64))) := (owns_below HOP6.out hal9).kept hg9 (own_types (owns_below HOP6.out hal9) (owns_below HED6.out hal9) (by decide))
       clear ho9 hg9 hal9
       go_wp2
       go_roundw
       case rel => exact ⟨n + 1, S, E ++ [⟨(i : Int), (n : Int), (pn : Int)⟩], by go_num, by omega, by omega, by rw [HNX.out, HST.out], HB9.out, HOP9.out, HM9.out⟩
       case measure => simp [intOf]; omega
      ·rw [if_neg hpl2]
       have hpnS : pn = SN := by have h := mplace_le P S y; rw [← HPN.out, ← HSN.out] at h; omega
       have HST : Hid (mstep P i ⟨S, E⟩ e = ⟨S ++ [y], E ++ [⟨(i : Int), (n : Int), (SN : Int)⟩]⟩) := by
        have h := mstep_new (p := P) (i := i) (st := ⟨S, E⟩) (e := e) (by show ¬ mplace P S e.dst < S.length; rw [HED.out, ← HPN.out, ← HSN.out]; exact hpl2)
        unfold Hid
        rw [h, HEL.out, HED.out]
        show MNet.mk (S ++ [y]) (E ++ [⟨(i : Int), (n : Int), ((S.length : Nat) : Int)⟩]) = _
        rw [← HSN.out]
       have HED6 : Hid (w6.ownsRow G 73 3 (.slice ge EN ce) EN (E.flatMap encE)) := by
        have h := HM6.out.ed
        unfold Hid; rw [HEN.out]; rw [HEN.out] at h; exact h
       have hal6 : Below w6.heap.size w6 (w6.alloc (.cells #[.int .i64 py] 2)) := (Below.refl _ _).alloc (Nat.le_refl _) _
       have HL1 : Hid ((w6.alloc (.cells #[.int .i64 py] 2)).ownsRow G 2 1 (.slice (some ⟨ga, 0, none⟩) SN ca) SN ((S.map (bkOf P)).map (Value.int .i64))) := by
        have h := HM6.out.od.left
        rw [HLO2.out] at h
        exact h.alloc _
       have hG6 : G < w6.heap.size := by omega
       go_wp2_with (at_builtin; refine wpList_append_own_at _ rfl _ _ 66 rfl G 2 i1 (.int .i64 0) 1 8 Tryz.underlying66 hi1 hz10 hz11 hz12 rfl (by decide) _ SN _ rfl HL1.out ⟨w6.heap.size, 0, none⟩ 1 1 [.int .i64 py] rfl rfl (World.news_of_block (cs := #[.int .i64 py]) (t := 2) (fr := (0, 0)) (heap_alloc_new _ _)) ?k2 ?k3 ?k4 ?k5 ?_)
       case k2 => first | (intro u hu; simp at hu; subst hu; rfl) | rfl
       case k3 => first | (simp [maxLen]; omega) | omega
       case k4 => omega
       case k5 => first | omega | (simp; omega)
       intro v7 w7 ho7 hg7 _ ha7
       have HB7 : Hid (Below B wA w7) := (HB6.out.alloc (by have := HB6.out.size; have := HSA.out; have := HB.out; omega) _).grown hg7 (by simp; omega) (fun b e => Nat.le_trans hBG (HL1.out.lt b e).1)
       have HOD7 : Hid (OwnD G w7 v7 (.slice (some ⟨gb, 0, none⟩) SN cb) (.slice none 0 0) (.slice none 0 0) (S.map (bkOf P) ++ [py]) S [] []) := HM6.out.od.pushL hg7 (by show w7.ownsRow G 2 1 v7 ((S.map (bkOf P)).length + 1) ((S.map (bkOf P)).map (Value.int .i64) ++ [.int .i64 py]); rw [HLO2.out, List.map_map]; exact ho7) (by simpa using ha7)
       have HED7 : Hid (w7.ownsRow G 73 3 (.slice ge EN ce) EN (E.flatMap encE)) := (owns_below HED6.out hal6).kept hg7 (own_types (owns_below HED6.out hal6) HL1.out (by decide))
       have HOP7 : Hid (w7.ownsRow B 2 1 (.slice (some ⟨gP, 0, none⟩) N cP) N (P.map (Value.int .i64))) := (owns_below HOP6.out hal6).kept hg7 (.inr (by simp [Value.ownBlock]; omega))
       have hs7 : w6.heap.size ≤ w7.heap.size := by have := hg7.size; simp at this; omega
       obtain ⟨a7, c7, rfl, -, -⟩ := owns_slice ho7
       clear ho7 hg7 ha7 HL1 cy6 hal6
       have hal7 : Below w7.heap.size w7 (w7.alloc (.cells #[.int .i64 yn] 2)) := (Below.refl _ _).alloc (Nat.le_refl _) _
       have HL2 : Hid ((w7.alloc (.cells #[.int .i64 yn] 2)).ownsRow G 2 1 (.slice (some ⟨gb, 0, none⟩) SN cb) SN (S.map (Value.int .i64))) := by
        have h := HOD7.out.right
        rw [← HSN.out] at h
        exact h.alloc _
       go_wp2_with (at_builtin; refine wpList_append_own_at _ rfl _ _ 66 rfl G 2 i1 (.int .i64 0) 1 8 Tryz.underlying66 hi1 hz10 hz11 hz12 rfl (by decide) _ SN _ rfl HL2.out ⟨w7.heap.size, 0, none⟩ 1 1 [.int .i64 yn] rfl rfl (World.news_of_block (cs := #[.int .i64 yn]) (t := 2) (fr := (0, 0)) (heap_alloc_new _ _)) ?k2 ?k3 ?k4 ?k5 ?_)
       case k2 => first | (intro u hu; simp at hu; subst hu; rfl) | rfl
       case k3 => first | (simp [maxLen]; omega) | omega
       case k4 => omega
       case k5 => first | omega | (simp; omega)
       intro v8 w8 ho8 hg8 _ ha8
       have HB8 : Hid (Below B wA w8) := (HB7.out.alloc (by have := HB7.out.size; have := HSA.out; have := HB.out; omega) _).grown hg8 (by simp; omega) (fun b e => Nat.le_trans hBG (HL2.out.lt b e).1)
       have HOD8 : Hid (OwnD G w8 (.slice a7 (SN + 1) c7) v8 (.slice none 0 0) (.slice none 0 0) (S.map (bkOf P) ++ [py]) (S ++ [(yn : Int)]) [] []) := HOD7.out.pushR hg8 (by rw [← HSN.out]; exact ho8) (by simpa using ha8)
       have HED8 : Hid (w8.ownsRow G 73 3 (.slice ge EN ce) EN (E.flatMap encE)) := (owns_below HED7.out hal7).kept hg8 (own_types (owns_below HED7.out hal7) HL2.out (by decide))
       have HOP8 : Hid (w8.ownsRow B 2 1 (.slice (some ⟨gP, 0, none⟩) N cP) N (P.map (Value.int .i64))) := (owns_below HOP7.out hal7).kept hg8 (.inr (by simp [Value.ownBlock]; omega))
       have hs8 : w7.heap.size ≤ w8.heap.size := by have := hg8.size; simp at this; omega
       obtain ⟨a8, c8, rfl, -, -⟩ := owns_slice ho8
       have HM8 : Hid (MMem G w8 (.slice a7 (SN + 1) c7) (.slice a8 (SN + 1) c8) (.slice ge EN ce) P ⟨S ++ [y], E⟩) := by
        have h := HOD8.out
        rw [HYN.out] at h
        refine ⟨?_, by have h9 := HED8.out; rw [HEN.out] at h9 ⊢; exact h9⟩
        show OwnD G w8 _ _ _ _ ((S ++ [y]).map (bkOf P)) (S ++ [y]) [] []
        rw [List.map_append, List.map_singleton, HBK.out]
        exact h
       clear ho8 hg8 ha8 HL2 HOD7 HOD8 hal7 HB7 HED7 HOP7
       go_wp2_with (at_builtin; refine wpList_append_own_at _ rfl _ _ 27 rfl G 73 i2 (.agg #[.int .i64 0, .int .i64 0, .int .i64 0]) 3 24 Tryz.underlying27 hi2 hz20 hz21 hz22 rfl (by decide) _ EN _ rfl (HED8.out.alloc _) ⟨w8.heap.size, 0, none⟩ 1 1 [.int .i64 i, .int .i64 n, .int .i64 SN] rfl rfl ?c1 ?c2 ?c3 ?c4 ?c5 ?_)
       case c1 => have := three_new w8 ⟨(i : Int), (n : Int), (SN : Int)⟩ 73; simpa [encE] using this
       case c2 => first | (intro u hu; simp at hu; rcases hu with rfl | rfl | rfl <;> rfl) | exact ⟨rfl, rfl, rfl⟩ | simp [Value.oneCell']
       case c3 => first | omega | (simp [maxLen]; omega)
       case c4 => first | omega | (simp; omega)
       case c5 => first | omega | (simp; omega)
       intro v9 w9 ho9 hg9 _ _
       have hal9 : Below w8.heap.size w8 (w8.alloc (.cells #[.int .i64 i, .int .i64 n, .int .i64 SN] 73)) := (Below.refl _ _).alloc (Nat.le_refl _) _
       have HM9 := Lib.hid (MMem.edge (e := ⟨(i : Int), (n : Int), (SN : Int)⟩) HM8.out hal9 hg9 (by rw [← HEN.out]; simpa [encE] using ho9))
       have HB9 : Hid (Below B wA w9) := (HB8.out.alloc (by have := HB8.out.size; have := HSA.out; have := HB.out; omega) _).grown hg9 (by simp; omega) (fun b e => Nat.le_trans hBG (HED8.out.lt b e).1)
       have HOP9 : Hid (w9.ownsRow B 2 1 (.slice (some ⟨gP, 0, none⟩) N cP) N (P.map (Value.int .i64))) := (owns_below HOP8.out hal9).kept hg9 (own_types (owns_below HOP8.out hal9) (owns_below HED8.out hal9) (by decide))
       clear ho9 hg9 hal9
       go_wp2
       go_roundw
       case rel => exact ⟨n + 1, S ++ [y], E ++ [⟨(i : Int), (n : Int), (SN : Int)⟩], by go_num, by omega, by omega, by rw [HNX.out, HST.out], HB9.out, HOP9.out, HM9.out⟩
       case measure => simp [intOf]; omega
    ·obtain rfl : n = LN := by omega
     have HNX : Hid (mAt d P (i + 1) = ⟨S, E⟩) := by
      unfold Hid
      have h1 := outTo_all (d := d) (x := x) (fun e he => by
       obtain ⟨j, hj, rfl⟩ := List.mem_iff_getElem.1 he
       exact (HV.out.edge j hj).l1)
      rw [mAt_some (show (mAt d P i).rows[i]? = some x from by rw [← HS0.out]; exact HXX.out), ← HS0.out, ← h1, ← HLN.out]
      exact HM2.out
     have HSNS := HSN.out
     clear hbw
     go_wp2
     go_roundw
     case rel => exact ⟨i + 1, by go_num, by rw [HNX.out]; show i + 1 ≤ S.length; omega, HBL.out, HOP1.out, by rw [HNX.out]; exact HMM.out⟩
     case measure => simp [intOf]; omega
  ·obtain rfl : i = R := by omega
   have HDN : Hid (MDone d P S0) := ⟨i, hS0.symm, by rw [← hR]; exact Nat.le_refl _⟩
   have HUP : Hid (Up S0.edges) := by unfold Hid; rw [hS0]; exact (mAt_up HU.out i).1
   obtain ⟨EN, hEN⟩ : ∃ EN, EN = S0.edges.length := ⟨_, rfl⟩
   obtain ⟨ge, ce, rfl, -, -⟩ := owns_slice hmm.ed
   have hed := hmm.ed
   rw [← hEN] at hed ⊢
   have hbw : Below w.heap.size w wC := HBA.out.trans (hbl.mono (by have := HB.out; have := HRB.out; omega))
   have q2 := keeps hbw hpl HQ2.out
   obtain ⟨tb, htb⟩ : ∃ tb, tb = wC.heap.size := ⟨_, rfl⟩
   obtain ⟨wT, hwT⟩ : ∃ wT, wT = wC.alloc (.cells #[.int .i64 i, .int .i64 0, .slice al LN cl, .slice ge EN ce] 29) := ⟨_, rfl⟩
   have hbT : Below wC.heap.size wC wT := by rw [hwT]; exact (Below.refl _ _).alloc (Nat.le_refl _) _
   have hT : Blk wT tb [.int .i64 i, .int .i64 0, .slice al LN cl, .slice ge EN ce] 29 := by rw [hwT, htb]; exact Blk.new wC _ _
   have hbwT : Below w.heap.size w wT := hbw.trans (hbT.mono hbw.size)
   have hptr : LtsPtr 0 wT tb (⟨(S0.rows.length : Int), 0, d.labels, S0.edges⟩ : Lts) := by
    refine ⟨_, _, hT.lt, by rw [hT.cell 0 rfl, ← hR], hT.cell 1 rfl, hT.cell 2 rfl, hT.cell 3 rfl, ?_, ?_⟩
    ·have h : SliceK 1 encS lo w (.slice al LN cl) d.labels := ⟨al, cl, by rw [HLN.out], by rw [← HLN.out]; exact hln, hlc, HLR.out⟩
     exact (h.below hbwT).mono (Nat.zero_le _)
    ·exact SliceK.of_owns (enc := encE) (e := 73) encE_len hEN (own_lower (owns_below hed hbT) (Nat.zero_le _))
   have HUS := Lib.hid (l11Used_any tb 0 (⟨(S0.rows.length : Int), 0, d.labels, S0.edges⟩ : Lts) wT (fun j hj => by
    have := (hG0.edges _ (List.getElem_mem hj)).2.1
    exact ⟨by omega, this.2⟩) (by show S0.edges.length ≤ 800; omega) hptr)
   have HBT := Lib.hid hbwT
   have HWT := Lib.hid hwT
   have HTB := Lib.hid htb
   have HR2 : Hid (Blk wT rb [.int .i64 0, .int .i64 0, .slice none 0 0, .slice none 0 0] 29) := by
    have h := HR.out.belowB hbl (by have := HB.out; omega)
    exact h.below hbT
   have HGG0 := Lib.hid hG0
   have HRL : Hid (((i : Nat) : Int) = ((S0.rows.map ([·])).length : Int)) := by unfold Hid; rw [List.length_map, ← hR]
   clear hS0 hG0 hmm hbl hop hR hed hbw htb hwT hbT hT hbwT hptr hEN
   go_wp2_with fail
   rw [← HWT.out]
   try rw [← HTB.out]
   refine Calls.mono HUS.out ?_
   rintro e w9 ⟨hb9, lv9, ev9, R9, rfl, hol9, hoe9, hmk9⟩
   obtain ⟨la9, lc9, rfl, -, -⟩ := owns_slice hol9
   obtain ⟨ea9, ec9, rfl, -, -⟩ := owns_slice hoe9
   have hmade := min_made HV.out HGG0.out HUP.out rfl hmk9
   have HMD := Lib.hid hmade
   have hR9 : Blk w9 rb [.int .i64 0, .int .i64 0, .slice none 0 0, .slice none 0 0] 29 := HR2.out.below hb9
   have HR99 := Lib.hid hR9
   have r0 := hR9.cell 0 rfl
   have r1 := hR9.cell 1 rfl
   have r2 := hR9.cell 2 rfl
   have r3 := hR9.cell 3 rfl
   have s0 := hR9.frozen 0
   have s1 := hR9.frozen 1
   have s2 := hR9.frozen 2
   have s3 := hR9.frozen 3
   have hszT : w.heap.size ≤ wT.heap.size := HBT.out.size
   have HB9 := Lib.hid (HBT.out.trans (hb9.mono hszT))
   have HOL9 := Lib.hid (own_lower hol9 hszT)
   have HOE9 := Lib.hid (own_lower hoe9 hszT)
   clear hb9 hol9 hoe9 hmk9 hmade hR9 q2
   go_wp2
   refine bodyPost_ret (smi_results rfl ((((HR99.out.set 0 _).set 1 _).set 2 _).set 3 _)) rfl ?_
   have hrbw : w.heap.size ≤ rb := by rw [HRB.out]; exact Nat.le_refl _
   refine ⟨(((HB9.out.setCell hrbw _).setCell hrbw _).setCell hrbw _).setCell hrbw _, sysOf d (mNet S0), _, _, by rw [show (sysOf d (mNet S0)).states = ((S0.rows.length : Nat) : Int) from by show (((S0.rows.map ([·])).length : Nat) : Int) = _; rw [List.length_map]]; rfl, ⟨S0, by rw [← HPE.out]; exact HDN.out, rfl⟩, ?_, ?_⟩
   ·have h := own4 HR99.out HOL9.out (v0 := .int .i64 ((S0.rows.length : Nat) : Int)) (v1 := .int .i64 0) (v2 := .slice la9 (labSet (tauT :: usedTs ⟨(S0.rows.length : Int), 0, d.labels, S0.edges⟩ S0.edges.length)).length lc9) (v3 := .slice ea9 R9.length ec9) (by decide)
    rw [← HMD.out.1]
    exact h
   ·have h := own4 HR99.out HOE9.out (v0 := .int .i64 ((S0.rows.length : Nat) : Int)) (v1 := .int .i64 0) (v2 := .slice la9 (labSet (tauT :: usedTs ⟨(S0.rows.length : Int), 0, d.labels, S0.edges⟩ S0.edges.length)).length lc9) (v3 := .slice ea9 R9.length ec9) (by decide)
    rw [← HMD.out.2]
    exact h

end Go.Proofs.YtaabkeejbhdenaaGreatDoor

namespace Go.Proofs.YtaabkeejbhdenaaGreatDoor
open Go Go.RowKit

theorem smt_results {w : World} {b : Nat} {v0 v1 v2 v3 : Value} {tmps : Array Value} (hc : tmps.getD 2 undef = .pointer (some ⟨b, 0, none⟩)) (hb : Blk w b [v0, v1, v2, v3] 29) :
  (results Tryz.f6 tmps).run Tryz.prog w = .ok (.tuple #[.agg #[v0, v1, v2, v3], tmps.getD 3 undef]) w := by
 have h0 := hb.cell 0 rfl
 have h1 := hb.cell 1 rfl
 have h2 := hb.cell 2 rfl
 have h3 := hb.cell 3 rfl
 simp only [Array.getD_eq_getD_getElem?] at hc
 simp [results, Tryz.results6, go_sem, hc, h0, h1, h2, h3, Result.andThen]

set_option maxRecDepth 100000 in
set_option maxHeartbeats 4000000 in
theorem specMinimalTraces_any (lo : Nat) (t : Lts) (lv ev : Value) (w : World) (hsh : Short t.labels) (hl : SliceK 1 encS lo w lv t.labels) (he : SliceK 3 encE lo w ev t.edges) :
  Calls Tryz.prog 6 #[.agg #[.int .i64 t.states, .int .i64 t.initial, lv, ev]] w (RetMin t w) := by
 obtain ⟨tb, htb⟩ : ∃ tb, tb = w.heap.size := ⟨_, rfl⟩
 obtain ⟨wA, hwA⟩ : ∃ wA, wA = (w.alloc (.cells #[.int .i64 t.states, .int .i64 t.initial, lv, ev] 29)).alloc (.cells #[.int .i64 0, .int .i64 0, .slice none 0 0, .slice none 0 0] 29) := ⟨_, rfl⟩
 have hbA : Below w.heap.size w wA := by rw [hwA]; exact ((Below.refl _ _).alloc (Nat.le_refl _) _).alloc (by simp) _
 have hT : Blk wA tb [.int .i64 t.states, .int .i64 t.initial, lv, ev] 29 := by rw [hwA, htb]; exact (Blk.new w _ _).alloc _
 have hR : Blk wA (tb + 1) [.int .i64 0, .int .i64 0, .slice none 0 0, .slice none 0 0] 29 := by
  have := Blk.new (w.alloc (.cells #[.int .i64 t.states, .int .i64 t.initial, lv, ev] 29)) [.int .i64 0, .int .i64 0, .slice none 0 0, .slice none 0 0] 29
  rw [World.size_alloc, ← htb] at this
  rw [hwA]
  exact this
 have HSH := Lib.hid hsh
 have HL := Lib.hid (hl.below hbA)
 have HE := Lib.hid (he.below hbA)
 skip
 have HBA := Lib.hid hbA
 have HT := Lib.hid hT
 have HR := Lib.hid hR
 have HWA := Lib.hid hwA
 have HTB := Lib.hid htb
 have hsW : w.heap.size ≤ wA.heap.size := hbA.size
 have hle : w.heap.size ≤ tb + 1 := by rw [htb]; omega
 have HP : Hid (LtsPtr lo wA tb t) := ⟨lv, ev, hT.lt, hT.cell 0 rfl, hT.cell 1 rfl, hT.cell 2 rfl, hT.cell 3 rfl, HL.out, HE.out⟩
 clear hsh hl he  hwA hbA hT hR htb
 by_cases hv : Valid t
 ·have HV := Lib.hid hv
  have HVA : Hid (Calls Tryz.prog 20 #[.pointer (some ⟨tb, 0, none⟩)] wA fun e w' => e = .returned (.bool true) ∧ Below wA.heap.size wA w') := Decides.yes (l11Is_any _ lo t _ HSH.out HP.out) hv
  clear hv
  go_enter Tryz.func6, Tryz.ntmps6
  go_wp2_with fail
  rw [← HWA.out, ← HTB.out]
  refine Calls.mono HVA.out ?_
  rintro e w1 ⟨rfl, hb1⟩
  have HB1 := Lib.hid hb1
  have HR1 := Lib.hid (HR.out.below hb1)
  have HT1 := Lib.hid (HT.out.below hb1)
  have t0 := HT1.out.cell 0 rfl
  have t1 := HT1.out.cell 1 rfl
  have t2 := HT1.out.cell 2 rfl
  have t3 := HT1.out.cell 3 rfl
  have HD : Hid (Calls Tryz.prog 21 #[.pointer (some ⟨tb, 0, none⟩)] w1 (RetSets t w1)) := l12Sets_any _ lo t _ HV.out (HP.out.below hb1)
  clear hb1
  skip
  go_wp2_with fail
  refine Calls.mono HD.out ?_
  rintro e w3 ⟨hb3, ⟨hfull, rfl⟩ | ⟨st, lvS, vr, evS, hok, rfl, hmem, hol⟩⟩
  ·obtain ⟨W3, hW3⟩ : ∃ W3, W3 = w3.alloc (.cells #[.int .i64 0, .int .i64 0, .slice none 0 0, .slice none 0 0] 29) := ⟨_, rfl⟩
   have hb4 : Below w3.heap.size w3 W3 := by rw [hW3]; exact (Below.refl _ _).alloc (Nat.le_refl _) _
   have HF := Lib.hid hfull
   have HB4 := Lib.hid (HB1.out.trans ((hb3.trans (hb4.mono hb3.size)).mono HB1.out.size))
   have HR4 := Lib.hid ((HR1.out.below hb3).below hb4)
   have HW3 := Lib.hid hW3
   have r0 := HR4.out.cell 0 rfl
   have r1 := HR4.out.cell 1 rfl
   have r2 := HR4.out.cell 2 rfl
   have r3 := HR4.out.cell 3 rfl
   have s0 := HR4.out.frozen 0
   have s1 := HR4.out.frozen 1
   have s2 := HR4.out.frozen 2
   have s3 := HR4.out.frozen 3
   rw [hW3] at r0 r1 r2 r3 s0 s1 s2 s3
   clear hfull hb3 hb4 hW3 t0 t1 t2 t3
   go_wp2
   rw [← HW3.out]
   refine bodyPost_ret (smt_results rfl ((((HR4.out.set 0 _).set 1 _).set 2 _).set 3 _)) rfl ?_
   exact min_none (((((HBA.out.trans (HB4.out.mono hsW)).setCell hle _).setCell hle _).setCell hle _).setCell hle _) (.inr (.inl ⟨HV.out, HF.out, rfl, rfl⟩))
  ·obtain ⟨la, lc, rfl, -, -⟩ := owns_slice hol
   obtain ⟨ea, ec, rfl, -, -⟩ := owns_slice hmem.2
   obtain ⟨-, hme⟩ := hmem
   obtain ⟨R, hRR⟩ : ∃ R, R = st.rows.length := ⟨_, rfl⟩
   obtain ⟨LN, hLN⟩ : ∃ LN, LN = t.labels.length := ⟨_, rfl⟩
   obtain ⟨EN, hEN⟩ : ∃ EN, EN = st.edges.length := ⟨_, rfl⟩
   have hml := hol
   rw [← hLN] at hml
   rw [← hEN] at hme
   rw [← hRR, ← hLN, ← hEN]
   obtain ⟨p3, hp3⟩ : ∃ p3, p3 = w3.heap.size := ⟨_, rfl⟩
   obtain ⟨W3, hW3⟩ : ∃ W3, W3 = w3.alloc (.cells #[.int .i64 R, .int .i64 0, .slice la LN lc, .slice ea EN ec] 29) := ⟨_, rfl⟩
   have hb4 : Below w3.heap.size w3 W3 := by rw [hW3]; exact (Below.refl _ _).alloc (Nat.le_refl _) _
   have hX : Blk W3 p3 [.int .i64 R, .int .i64 0, .slice la LN lc, .slice ea EN ec] 29 := by rw [hW3, hp3]; exact Blk.new _ _ _
   have hptr : LtsPtr 0 W3 p3 (dSys t st) := ⟨_, _, hX.lt, by rw [hX.cell 0 rfl, hRR]; rfl, hX.cell 1 rfl, hX.cell 2 rfl, hX.cell 3 rfl,
    SliceK.of_owns (enc := encS) (e := 9) encS_len hLN (by rw [flat_encS]; exact own_lower (owns_below hml hb4) (Nat.zero_le _)), SliceK.of_owns (enc := encE) (e := 73) encE_len hEN (own_lower (owns_below hme hb4) (Nat.zero_le _))⟩
   have HMN := Lib.hid (l12Minimal_any p3 0 (dSys t st) W3 (dSys_valid HV.out hok) (dSys_single HV.out hok) (dok_up hok) hptr)
   have HOK := Lib.hid hok
   have HB4 := Lib.hid (HB1.out.trans ((hb3.trans (hb4.mono hb3.size)).mono HB1.out.size))
   have HR4 := Lib.hid ((HR1.out.below hb3).below hb4)
   have HW3 := Lib.hid hW3
   have HP3 := Lib.hid hp3
   clear hok hb3 hb4 hW3 hp3 t0 t1 t2 t3 hme hml hol hRR hLN hEN hX hptr
   go_wp2_with fail
   rw [← HW3.out]
   try rw [← HP3.out]
   refine Calls.mono HMN.out ?_
   rintro e w5 ⟨hb5, r, lv5, ev5, rfl, hms, hown⟩
   obtain ⟨la5, lc5, rfl, -, -⟩ := owns_slice hown.1
   obtain ⟨ea5, ec5, rfl, -, -⟩ := owns_slice hown.2
   have hs4 : w.heap.size ≤ W3.heap.size := (HBA.out.trans (HB4.out.mono hsW)).size
   have HB5 := Lib.hid (HBA.out.trans ((HB4.out.trans (hb5.mono HB4.out.size)).mono hsW))
   have HR5 := Lib.hid (HR4.out.below hb5)
   have HO5 := Lib.hid (hown.lower hs4)
   have HMS := Lib.hid hms
   have r0 := HR5.out.cell 0 rfl
   have r1 := HR5.out.cell 1 rfl
   have r2 := HR5.out.cell 2 rfl
   have r3 := HR5.out.cell 3 rfl
   have s0 := HR5.out.frozen 0
   have s1 := HR5.out.frozen 1
   have s2 := HR5.out.frozen 2
   have s3 := HR5.out.frozen 3
   clear hb5 hms hown HMN
   go_wp2
   refine bodyPost_ret (smt_results rfl ((((HR5.out.set 0 _).set 1 _).set 2 _).set 3 _)) rfl ?_
   refine ⟨((((HB5.out).setCell hle _).setCell hle _).setCell hle _).setCell hle _, r, 0, _, _, rfl, .inr (.inr ⟨HV.out, st, HOK.out, HMS.out, rfl⟩), ?_, ?_⟩
   ·exact own4 HR5.out HO5.out.1 (by decide)
   ·exact own4 HR5.out HO5.out.2 (by decide)
 ·have HV := Lib.hid hv
  have HVA : Hid (Calls Tryz.prog 20 #[.pointer (some ⟨tb, 0, none⟩)] wA fun e w' => e = .returned (.bool false) ∧ Below wA.heap.size wA w') := Decides.no (l11Is_any _ lo t _ HSH.out HP.out) hv
  clear hv
  go_enter Tryz.func6, Tryz.ntmps6
  go_wp2_with fail
  rw [← HWA.out, ← HTB.out]
  refine Calls.mono HVA.out ?_
  rintro e w1 ⟨rfl, hb1⟩
  have HB1 := Lib.hid hb1
  have HR1 := Lib.hid (HR.out.below hb1)
  have r0 := HR1.out.cell 0 rfl
  have r1 := HR1.out.cell 1 rfl
  have r2 := HR1.out.cell 2 rfl
  have r3 := HR1.out.cell 3 rfl
  have s0 := HR1.out.frozen 0
  have s1 := HR1.out.frozen 1
  have s2 := HR1.out.frozen 2
  have s3 := HR1.out.frozen 3
  clear hb1
  skip
  go_wp2
  refine bodyPost_ret (smt_results rfl ((((HR1.out.set 0 _).set 1 _).set 2 _).set 3 _)) rfl ?_
  exact min_none (((((HBA.out.trans (HB1.out.mono hsW)).setCell hle _).setCell hle _).setCell hle _).setCell hle _) (.inl ⟨HV.out, rfl, rfl⟩)

end Go.Proofs.YtaabkeejbhdenaaGreatDoor

namespace Go.Proofs.YtaabkeejbhdenaaGreatDoor
open Go Go.RowKit

set_option maxRecDepth 100000 in
set_option maxHeartbeats 400000 in
theorem markStringS_any (lo hi b n cap : Nat) (cs : List Value) (k : Int) (w : World) (h1 : 0 ≤ k) (h2 : k + n ≤ 1000000000) (hb1 : lo ≤ b) (hb2 : b < hi) (hv : w.ownsRow lo 9 1 (.slice (some ⟨b, 0, none⟩) n cap) n cs) :
  Calls Tryz.prog 17 #[.slice (some ⟨b, 0, none⟩) n cap, .int .i64 k] w (MarkedIn lo hi w (k + n)) := by
 have HV := Lib.hid hv
 clear hv
 go_enter Tryz.func17, Tryz.ntmps17
 go_wp2
 go_loopw [1, 5] (fun q i wr => ∃ (j : Nat) (cs : List Value), j ≤ n ∧ q = .int .i64 (k + j) ∧ i = .int .i64 j ∧ Turns lo hi w wr ∧ wr.ownsRow lo 9 1 (.slice (some ⟨b, 0, none⟩) n cap) n cs) (fun _ i _ => n - (intOf i).toNat)
 case atStart => exact ⟨0, cs, Nat.zero_le _, by simp, rfl, turns_refl _ _ _, HV.out⟩
 case round =>
  obtain ⟨j, cs, hj, rfl, rfl, hg, ho⟩ := hrel
  have HG := Lib.hid hg
  have HO := Lib.hid ho
  clear hg ho HV
  by_cases hlt : j < n
  ·go_wp2_with fail
   refine (markText_any _ _ (by omega) (by omega)).mono ?_
   rintro e w1 ⟨s, rfl, hb⟩
   have ho1 := owns_below HO.out hb
   obtain ⟨xc1, c1⟩ := own_cell ho1 (j) (by omega)
   have f1 := ho1.frozenAt j
   have HO2 := Lib.hid (ho1.stored j (.string s)).1
   have HB := Lib.hid hb
   clear ho1 hb
   go_wp2
   go_roundw
   case rel => exact ⟨j + 1, _, by omega, by go_num, by go_num, turns_trans (turns_trans HG.out (turns_below HB.out)) (turns_set _ _ _ hb1 hb2), HO2.out⟩
   case measure => simp [intOf]; omega
  ·go_wp2
   go_ret
   obtain rfl : j = n := by omega
   exact ⟨rfl, HG.out⟩

set_option maxRecDepth 100000 in
set_option maxHeartbeats 1000000 in
theorem markEdgeS_any (lo hi b n cap : Nat) (cs : List Value) (k : Int) (w : World) (h1 : 0 ≤ k) (h2 : k + 3 * n ≤ 1000000000) (hb1 : lo ≤ b) (hb2 : b < hi) (hv : w.ownsRow lo 73 3 (.slice (some ⟨b, 0, none⟩) n cap) n cs) :
  Calls Tryz.prog 28 #[.slice (some ⟨b, 0, none⟩) n cap, .int .i64 k] w (MarkedIn lo hi w (k + 3 * n)) := by
 have HV := Lib.hid hv
 clear hv
 go_enter Tryz.func28, Tryz.ntmps28
 go_wp2
 go_loopw [1, 5] (fun q i wr => ∃ (j : Nat) (cs : List Value), j ≤ n ∧ q = .int .i64 (k + 3 * j) ∧ i = .int .i64 j ∧ Turns lo hi w wr ∧ wr.ownsRow lo 73 3 (.slice (some ⟨b, 0, none⟩) n cap) n cs) (fun _ i _ => n - (intOf i).toNat)
 case atStart => exact ⟨0, cs, Nat.zero_le _, by simp, rfl, turns_refl _ _ _, HV.out⟩
 case round =>
  obtain ⟨j, cs, hj, rfl, rfl, hg, ho⟩ := hrel
  have HG := Lib.hid hg
  clear hg HV
  by_cases hlt : j < n
  ·obtain ⟨xc0, c0⟩ := own_cell ho (j * 3) (by omega)
   have s0 := (ho.stored (j * 3) (.int .i64 (k + 3 * j))).1
   obtain ⟨xc1, c1⟩ := own_cell s0 (j * 3 + 1) (by omega)
   have s1 := (s0.stored (j * 3 + 1) (.int .i64 (k + 3 * j + 1))).1
   obtain ⟨xc2, c2⟩ := own_cell s1 (j * 3 + 2) (by omega)
   have HO := Lib.hid (s1.stored (j * 3 + 2) (.int .i64 (k + 3 * j + 1 + 1))).1
   obtain ⟨xg1, g1⟩ := own_cell ho (j * 3 + 1) (by omega)
   obtain ⟨xg2, g2⟩ := own_cell ho (j * 3 + 2) (by omega)
   have f0 := ho.frozenAt (j * 3)
   have f1 := ho.frozenAt (j * 3 + 1)
   have f2 := ho.frozenAt (j * 3 + 2)
   clear ho s0 s1
   go_wp2
   go_roundw
   case rel => exact ⟨j + 1, _, by omega, by go_num, by go_num, turns_trans (turns_trans (turns_trans HG.out (turns_set _ _ _ hb1 hb2)) (turns_set _ _ _ hb1 hb2)) (turns_set _ _ _ hb1 hb2), HO.out⟩
   case measure => simp [intOf]; omega
  ·go_wp2
   go_ret
   obtain rfl : j = n := by omega
   exact ⟨rfl, HG.out⟩

set_option maxHeartbeats 1000000 in
theorem markLts_any (lo hi b1 b2 n1 n2 : Nat) (x y : Int) (cs1 cs2 : List Value) (k : Int) (w : World) (h1 : 0 ≤ k) (h2 : k + n1 + 3 * n2 ≤ 1000000000) (hb1 : lo ≤ b1) (hb2 : b1 < hi) (hb3 : lo ≤ b2) (hb4 : b2 < hi) (hhi : hi ≤ w.heap.size) (hne : b1 ≠ b2)
  (hv1 : w.ownsRow lo 9 1 (.slice (some ⟨b1, 0, none⟩) n1 n1) n1 cs1) (hv2 : w.ownsRow lo 73 3 (.slice (some ⟨b2, 0, none⟩) n2 n2) n2 cs2) :
  Calls Tryz.prog 10 #[.agg #[.int .i64 x, .int .i64 y, .slice (some ⟨b1, 0, none⟩) n1 n1, .slice (some ⟨b2, 0, none⟩) n2 n2], .int .i64 k] w (MarkedIn lo hi w (k + n1 + 3 * n2)) := by
 have V1 := Lib.hid hv1
 have V2 := Lib.hid hv2
 have HN := Lib.hid hne
 clear hv1 hv2 hne
 go_enter Tryz.func10, Tryz.ntmps10
 go_wp2_with fail
 refine (markStringS_any b1 (b1 + 1) b1 n1 n1 cs1 _ _ h1 (by omega) (Nat.le_refl _) (Nat.lt_succ_self _) ?_).mono ?_
 ·have := owns_below V1.out ((Below.refl _ w).alloc (Nat.le_refl _) (.cells #[.int .i64 x, .int .i64 y, .slice (some ⟨b1, 0, none⟩) n1 n1, .slice (some ⟨b2, 0, none⟩) n2 n2] 29))
  exact own_base this
 rintro e w1 ⟨rfl, ht1⟩
 have A := Lib.hid ((Blk.new w [.int .i64 x, .int .i64 y, .slice (some ⟨b1, 0, none⟩) n1 n1, .slice (some ⟨b2, 0, none⟩) n2 n2] 29).turns ht1 (by omega))
 have c3 := A.out.cell 3 rfl
 have T1 : Hid (Turns lo hi w w1) := turns_trans (turns_below ((Below.refl _ w).alloc (Nat.le_refl _) _)) (turns_wide ht1 (by omega) (by omega))
 have W2 := Lib.hid (owns_turns (owns_below V2.out ((Below.refl _ w).alloc (Nat.le_refl _) _)) ht1 (fun b e => by simp [Value.ownBlock] at e; have := HN.out; omega))
 clear ht1
 go_wp2_with fail
 refine (markEdgeS_any lo hi b2 n2 n2 cs2 _ _ (by omega) (by omega) hb3 hb4 W2.out).mono ?_
 rintro e w2 ⟨rfl, ht2⟩
 have T2 := Lib.hid ht2
 clear ht2
 go_wp2_with fail
 go_ret
 exact ⟨rfl, turns_trans T1.out T2.out⟩

end Go.Proofs.YtaabkeejbhdenaaGreatDoor

namespace Go.Proofs.YtaabkeejbhdenaaGreatDoor
open Go Go.RowKit

theorem szS_fit (ss : List ByteArray) (left : Int) (h0 : 0 ≤ left) (h : 0 ≤ szS ss left) : ∀ s ∈ ss, (s.size : Int) ≤ left := by
 induction ss generalizing left with
 | nil => intro s hs; cases hs
 | cons a r ih =>
  unfold szS at h
  split at h
  ·omega
  ·next hl =>
   intro s hs
   rcases List.mem_cons.1 hs with rfl | hs
   ·omega
   ·have := ih (left - a.size) (by omega) h s hs
    omega
theorem szL_fit {t : Lts} {left : Int} (_h0 : 0 ≤ left) (h : 0 ≤ szL t left) : (t.labels.length : Int) ≤ left ∧ (t.edges.length : Int) ≤ left ∧ (∀ s ∈ t.labels, (s.size : Int) ≤ left) ∧ szL t left ≤ left := by
 unfold szL at h ⊢
 split at h
 ·omega
 ·next h1 =>
  rw [if_neg h1]
  split at h
  ·omega
  ·next h2 =>
   rw [if_neg h2]
   have h3 : ¬ left - t.labels.length < 0 := by
    intro e
    rw [szSS_neg e] at h1
    omega
   rw [szSS_pos h3] at h1 h2 h ⊢
   have h4 := szS_lt t.labels (left - t.labels.length) (by omega)
   have h5 : ¬ szS t.labels (left - t.labels.length) - t.edges.length < 0 := by
    intro e
    rw [szN_neg e] at h2
    omega
   rw [szN_pos h5] at h ⊢
   refine ⟨by omega, by omega, fun s hs => ?_, by omega⟩
   have := szS_fit t.labels (left - t.labels.length) (by omega) (by omega) s hs
   omega

end Go.Proofs.YtaabkeejbhdenaaGreatDoor

namespace Go.Proofs.YtaabkeejbhdenaaGreatDoor
open Go Go.RowKit

theorem blk4 {w : World} {b : Nat} {c0 c1 c2 c3 : Value} {T : TypeId} (h : Blk w b [c0, c1, c2, c3] T) :
  w.cell? ⟨b, 0, none⟩ = some c0 ∧ w.cell? ⟨b, 1, none⟩ = some c1 ∧ w.cell? ⟨b, 2, none⟩ = some c2 ∧ w.cell? ⟨b, 3, none⟩ = some c3 :=
 ⟨h.cell 0 rfl, h.cell 1 rfl, h.cell 2 rfl, h.cell 3 rfl⟩
theorem boxNew (w : World) (a : Array Value) (T : TypeId) : Below w.heap.size w (w.alloc (.cells a T)) := (Below.refl _ _).alloc (Nat.le_refl _) _

/-- A copy of a system, with both slices in blocks of its own. -/
structure Copy (B : Nat) (t : Lts) (b1 b2 : Nat) (w : World) : Prop where
 h1 : B ≤ b1
 h2 : b1 < b2
 h3 : b2 < w.heap.size
 o1 : w.ownsRow B 9 1 (.slice (some ⟨b1, 0, none⟩) t.labels.length t.labels.length) t.labels.length (t.labels.map .string)
 o2 : w.ownsRow b2 73 3 (.slice (some ⟨b2, 0, none⟩) t.edges.length t.edges.length) t.edges.length (t.edges.flatMap encE)
theorem Copy.below {B : Nat} {t : Lts} {b1 b2 : Nat} {w w' : World} (h : Copy B t b1 b2 w) (hb : Below w.heap.size w w') : Copy B t b1 b2 w' :=
 ⟨h.h1, h.h2, Nat.lt_of_lt_of_le h.h3 hb.size, owns_below h.o1 hb, owns_below h.o2 hb⟩
theorem Copy.labels {B : Nat} {t : Lts} {b1 b2 : Nat} {w : World} (h : Copy B t b1 b2 w) : SliceK 1 encS 0 w (.slice (some ⟨b1, 0, none⟩) t.labels.length t.labels.length) t.labels :=
 SliceK.of_owns (e := 9) encS_len rfl (by rw [flat_encS]; exact own_lower h.o1 (Nat.zero_le _))
theorem Copy.edges {B : Nat} {t : Lts} {b1 b2 : Nat} {w : World} (h : Copy B t b1 b2 w) : SliceK 3 encE 0 w (.slice (some ⟨b2, 0, none⟩) t.edges.length t.edges.length) t.edges :=
 SliceK.of_owns (e := 73) encE_len rfl (own_lower h.o2 (Nat.zero_le _))
theorem Copy.at {B : Nat} {t : Lts} {b1 b2 : Nat} {w : World} (h : Copy B t b1 b2 w) : LtsAt 0 w (.agg #[.int .i64 t.states, .int .i64 t.initial, .slice (some ⟨b1, 0, none⟩) t.labels.length t.labels.length, .slice (some ⟨b2, 0, none⟩) t.edges.length t.edges.length]) t :=
 ⟨_, _, rfl, h.labels, h.edges⟩
theorem Copy.turns {B : Nat} {t : Lts} {b1 b2 lo hi : Nat} {w w' : World} (h : Copy B t b1 b2 w) (ht : Turns lo hi w w') (hB : hi ≤ B) : Copy B t b1 b2 w' :=
 ⟨h.h1, h.h2, Nat.lt_of_lt_of_le h.h3 ht.size, owns_turns h.o1 ht (fun b e => by have := (h.o1.lt b e).1; omega), owns_turns h.o2 ht (fun b e => by have := (h.o2.lt b e).1; have := h.h1; have := h.h2; omega)⟩
def CopyMade (t : Lts) (w : World) (e : Ending) (w' : World) : Prop := ∃ b1 b2, e = .returned (.agg #[.int .i64 t.states, .int .i64 t.initial, .slice (some ⟨b1, 0, none⟩) t.labels.length t.labels.length, .slice (some ⟨b2, 0, none⟩) t.edges.length t.edges.length]) ∧ Below w.heap.size w w' ∧ Copy w.heap.size t b1 b2 w'
theorem copy_any (lo : Nat) (t : Lts) (lv ev : Value) (w : World) (hl : t.labels.length ≤ 1048576) (he : t.edges.length ≤ 1048576) (h1 : SliceK 1 encS lo w lv t.labels) (h2 : SliceK 3 encE lo w ev t.edges) :
  Calls Tryz.prog 7 #[.agg #[.int .i64 t.states, .int .i64 t.initial, lv, ev]] w (CopyMade t w) :=
 (toLts_any (.agg #[.int .i64 t.states, .int .i64 t.initial, lv, ev]) lo t w hl he ⟨lv, ev, rfl, h1, h2⟩).mono fun _ _ ⟨b1, b2, he, hb, h1, h2, h3, h4, h5⟩ => ⟨b1, b2, he, hb, h1, h2, h3, h4, h5⟩

end Go.Proofs.YtaabkeejbhdenaaGreatDoor
