/-
  What the monitor's closure over the labels computes: all steps from one pair, if its verdict is open.
  What explored computes at pairs: the net, and whether its system is valid.
  The verdicts of the first rows. Plain.
  lts over the labels of the system that was searched.
-/
import Derived.Test.YtmhpfmanagbggaaGreatDoorK13
import Derived.Test.YtmhpfmanagbggaaGreatDoorK16
import Derived.Test.YtmhpfmanagbggaaGreatDoorK14
import Derived.Test.YtmhpfmanagbggaaGreatDoorK10
import Derived.Handy
import Derived.Test.YtmhpfmanagbggaaGreatDoorK9
namespace Go.Proofs.YtmhpfmanagbggaaGreatDoor
open Go Go.RowKit

theorem QW.rok {t p : Lts} {r : WSt} (hv : Valid t) (hp : Valid p) (h : QW t p r) : WRok r := by
 have h1 := hv.st1
 have h2 := hp.st1
 have h3 := h.y1
 refine ⟨⟨h.ne, few_states ?_ h.low h1, fun x hx => by have := h.low x hx; omega⟩, h.y0, by omega⟩
 rw [List.nodup_iff_pairwise_ne]
 exact h.asc.imp fun h => by omega
theorem WGood.rok {t p : Lts} {c d : List Bool} (hv : Valid t) (hp : Valid p) {st : WNet} (h : WGood (jobW t p c d) (QW t p) st) : ∀ r ∈ st.rows, WRok r := fun r hr => (h.rows r hr).rok hv hp

set_option maxRecDepth 100000 in
set_option maxHeartbeats 8000000 in
theorem movesW_any (B xb mb pb ib rb n jb ob lo S P bm g1 bm2 g2 : Nat) (gs gs2 : List Nat) (t p : Lts) (c d : List Bool) (S0 : WNet) (cur : List Int) (y : Int) (sv av lv ev lv2 ev2 rn : Value) (vs : List Value) (w0 w : World) (hO : Both lo S P t p lv ev lv2 ev2 w0) (hm : Mat w0 bm S P c g1 gs) (hm2 : Mat w0 bm2 S P d g2 gs2)
  (hj : Blk w0 jb [.slice (some ⟨g1, 0, none⟩) S S, .slice (some ⟨g2, 0, none⟩) S S] 74) (hob : Blk w0 ob [.int .i64 t.states, .int .i64 t.initial, lv, ev, .int .i64 p.states, .int .i64 p.initial, lv2, ev2] 51) (hB : B = w0.heap.size) (hbl : Below B w0 w)
  (hE : ExpW B xb mb pb ib rb true n t S0 sv av vs w) (g : Glob w0) (hG : WGood (jobW t p c d) (QW t p) S0) (h40 : S0.rows.length ≤ 40) (he440 : S0.edges.length ≤ 440)
  (hcur : S0.rows[n]? = some (cur, y)) (hrn : vs[n]? = some rn) :
  Calls Tryz.prog 47 #[.agg #[rn, .int .i64 y], .func (.func 80) #[] #[.pointer (some ⟨pb, 0, none⟩), .pointer (some ⟨ib, 0, none⟩)], .pointer (some ⟨jb, 0, none⟩), .pointer (some ⟨ob, 0, none⟩)] w fun e w' =>
   e = .returned (.bool true) ∧ Below B w0 w' ∧ ∃ sv' av' vs', ExpW B xb mb pb ib rb true n t (pwmid (jobW t p c d) n (cur, y) S0 (t.labels.length - 1)) sv' av' vs' w' ∧ ∃ tail, vs' = vs ++ tail := by
 have hv := hO.vt
 have hvp := hO.vp
 have HV := Lib.hid hO.vt
 have HVP := Lib.hid hO.vp
 have HSP := Lib.hid hO.sp
 have HSS := Lib.hid hO.hS
 have HPP := Lib.hid hO.hP
 have HL := Lib.hid hO.s1
 have HEE := Lib.hid hO.s2
 have HL2 := Lib.hid hO.q1
 have HE2 := Lib.hid hO.q2
 have HMA := Lib.hid hm
 have HMB := Lib.hid hm2
 have HJ := Lib.hid hj
 have HO := Lib.hid hob
 have HGL := Lib.hid g
 have HG := Lib.hid hG
 have HCU := Lib.hid hcur
 have HRN := Lib.hid hrn
 have HB := Lib.hid hB
 have hszB : B ≤ w.heap.size := by rw [hB]; exact hbl.size
 have hlpos := hv.labels.pos
 have hlmost := hv.labels.most
 have HQ := Lib.hid (hG.rows _ (List.mem_of_getElem? hcur))
 -- the pair in a box of its own
 obtain ⟨W, hW⟩ : ∃ W, W = w.alloc (.cells #[rn, .int .i64 y] 78) := ⟨_, rfl⟩
 obtain ⟨b, hb⟩ : ∃ b, b = w.heap.size := ⟨_, rfl⟩
 have hbW : Below w.heap.size w W := by rw [hW]; exact (Below.refl _ _).alloc (Nat.le_refl _) _
 have hXb : Blk W b [rn, .int .i64 y] 78 := by rw [hW, hb]; exact Blk.new w _ _
 have HX := Lib.hid (hE.below hbW)
 have HBL := Lib.hid (hbl.trans (hbW.mono hszB))
 have hszW : B ≤ W.heap.size := Nat.le_trans hszB hbW.size
 have HXB := Lib.hid hXb
 have nebx : b ≠ xb := blk_blk_ne hXb (hE.below hbW).box (by decide)
 have nebm : b ≠ mb := blk_map_ne' hXb (hE.below hbW).map
 have nebs : sv.ownBlock ≠ some b := fun e => by
  have := (hE.rows.2.1.lt b e).2
  omega
 have neba : av.ownBlock ≠ some b := fun e => by
  have := (hE.arcs.lt b e).2
  omega
 have hrs : SliceK 1 encI B w rn cur := by
  obtain ⟨hn1, hn2⟩ := List.getElem?_eq_some_iff.1 hrn
  obtain ⟨hm1, hm2⟩ := List.getElem?_eq_some_iff.1 hcur
  have h3 := hE.rows.2.2 n hn1 hm1
  rw [hn2, hm2] at h3
  exact SliceK.of_owns (enc := encI) encI_len rfl (by rw [flat_encI]; exact h3)
 obtain ⟨ar, cr, rfl, hrl, hrc, hrrow⟩ := hrs
 obtain ⟨RL, hRL⟩ : ∃ RL, RL = cur.length := ⟨_, rfl⟩
 have HRS : Hid (SliceK 1 encI B w (.slice ar RL cr) cur) := by rw [hRL]; exact ⟨ar, cr, rfl, hrl, hrc, hrrow⟩
 rw [← hRL] at hW HXB HRN
 rw [← hRL]
 have h0W : Below B w0 W := HBL.out
 have hw0 : Below w0.heap.size w0 W := by have := h0W; rw [hB] at this; exact this
 have HVD := Lib.hid (verdict_any B bm bm2 S P t p c d g1 g2 gs gs2 (.slice ar RL cr) cur y W hO.hS hO.hP (hm.below hw0) (hm2.below hw0) (HRS.out.below hbW) HQ.out.low HQ.out.y1)
 obtain ⟨vd, hvd⟩ : ∃ vd, vd = vdL p c d cur y := ⟨_, rfl⟩
 rw [← hvd] at HVD
 have HVDD := Lib.hid hvd
 have j0 := (hj.below hw0).cell 0 rfl
 have j1 := (hj.below hw0).cell 1 rfl
 have x0 := HXB.out.cell 0 rfl
 have x1 := HXB.out.cell 1 rfl
 have o2 := (hob.below hw0).cell 2 rfl
 have hobW := (hob.below hw0).lt
 obtain ⟨al, cl, rfl, hln, hlc, hlrow⟩ := hO.s1
 obtain ⟨bl, ol, rfl, hblw, hcells⟩ : ∃ bl ol, al = some ⟨bl, ol, none⟩ ∧ bl < w0.heap.size ∧ ∀ i (h : i < t.labels.length), w0.cell? ⟨bl, ol + i, none⟩ = some (.string t.labels[i]) := by
  rcases hlrow with h | ⟨bl, ol, h1, -, h3, h4⟩
  ·omega
  ·exact ⟨bl, ol, h1, h3, fun i hi => by have := h4 i hi 0 (by omega); simpa [encS] using this⟩
 have HCE := Lib.hid hcells
 obtain ⟨L, hL⟩ : ∃ L, L = t.labels.length := ⟨_, rfl⟩
 rw [← hL] at hlpos hlmost hln o2 HO HL
 rw [← hL]
 have HLL := Lib.hid hL
 have hcl0 : ¬ cl = 0 := by omega
 have HW := Lib.hid hW
 have HBE := Lib.hid hb
 have HHB := Lib.hid hbW
 have j0' := j0
 have j1' := j1
 have o2' := o2
 rw [hW] at j0' j1' o2'
 obtain ⟨J, hJ⟩ : ∃ J, J = jobW t p c d := ⟨_, rfl⟩
 rw [← hJ] at HG
 rw [← hJ]
 have HJJ := Lib.hid hJ
 clear hv hvp hO hm hm2 hj hob g hG hE hbl hB hcur hrn hlrow hcells hL hW hb hbW hXb hrl hrc hrrow hRL h0W hw0 hvd hJ
 go_enter Tryz.func47, Tryz.ntmps47
 go_wp2_with fail
 rw [← HW.out]
 try rw [← HBE.out]
 refine Calls.mono HVD.out ?_
 rintro e w1 ⟨rfl, hb1⟩
 have HB1 := Lib.hid (HBL.out.trans (hb1.mono hszW))
 have HX1 := Lib.hid (HX.out.below hb1)
 have HXB1 := Lib.hid (HXB.out.below hb1)
 have o2 := keeps hb1 hobW o2
 clear hb1 HVD j0 j1 x0 x1 j0' j1' o2' HBL HX HXB
 by_cases h0 : vd = 0
 ·have HV0 : Hid (vdL p c d cur y = 0) := by rw [← HVDD.out]; exact h0
  subst h0
  by_cases hc1 : cl = 1
  ·have hL1 : L = 1 := by omega
   have HD : Hid (pwmid J n (cur, y) S0 (L - 1) = S0) := by unfold Hid; rw [hL1]; exact pwmid_zero J n (cur, y) S0
   subst hc1 hL1
   go_wp2
   go_loop [22] (fun v22 => v22 = .int .i64 0) (fun _ => 0)
   case atStart => rfl
   case round =>
    subst hrel
    go_wp2
    go_ret
    refine ⟨rfl, HB1.out, sv, av, vs, ?_, [], by simp⟩
    rw [HD.out]
    exact HX1.out
  ·go_wp2
   go_loopw [22] (fun v22 wr => ∃ (j : Nat) (sv' av' : Value) (tail : List Value), v22 = .int .i64 j ∧ j ≤ L - 1 ∧ Below B w0 wr ∧ ExpW B xb mb pb ib rb true n t (pwmid J n (cur, y) S0 j) sv' av' (vs ++ tail) wr ∧ Blk wr b [.slice ar RL cr, .int .i64 y] 78 ∧ sv'.ownBlock ≠ some b ∧ av'.ownBlock ≠ some b) (fun v22 _ => L - (intOf v22).toNat)
   case atStart => exact ⟨0, sv, av, [], rfl, Nat.zero_le _, HB1.out, by rw [pwmid_zero, List.append_nil]; exact HX1.out, HXB1.out, nebs, neba⟩
   case round =>
    clear HB1 HX1 HXB1 nebs neba
    obtain ⟨j, sv2, av2, tail, rfl, hj, hbl, hx, hxb, nebs, neba⟩ := hrel
    obtain ⟨wC, rfl⟩ : ∃ wC : World, wC = wr := ⟨_, rfl⟩
    have HBL := Lib.hid hbl
    have HX := Lib.hid hx
    have HXB := Lib.hid hxb
    have HNS := Lib.hid nebs
    have HNA := Lib.hid neba
    have hszC : B ≤ wC.heap.size := by rw [HB.out]; exact hbl.size
    have hbl0 : Below w0.heap.size w0 wC := by have := hbl; rw [HB.out] at this; exact this
    clear hbl hx hxb nebs neba
    by_cases hlt : j < L - 1
    ·have hk : j + 1 < t.labels.length := by rw [← HLL.out]; omega
     have hc := keeps hbl0 hblw (HCE.out (j + 1) hk)
     rw [show ol + (j + 1) = ol + 1 + j from by omega] at hc
     obtain ⟨l, hl⟩ : ∃ l, l = t.labels[j + 1] := ⟨_, rfl⟩
     rw [← hl] at hc
     have hgl : t.labels.getD (j + 1) ByteArray.empty = l := by rw [List.getD_eq_getElem?_getD, List.getElem?_eq_getElem hk, hl]; rfl
     have HOC := Lib.hid (HO.out.below hbl0)
     have t0 := HOC.out.cell 0 rfl
     have t1 := HOC.out.cell 1 rfl
     have t2 := HOC.out.cell 2 rfl
     have t3 := HOC.out.cell 3 rfl
     have x0 := HXB.out.cell 0 rfl
     have x1 := HXB.out.cell 1 rfl
     have hrn : (vs ++ tail)[n]? = some (.slice ar RL cr) := by rw [List.getElem?_append_left (List.getElem?_eq_some_iff.1 HRN.out).1]; exact HRN.out
     have hrs : SliceK 1 encI B wC (.slice ar RL cr) cur := by
      have hm := pwmid_rowAt (G := J) HCU.out j
      obtain ⟨hn1, hn2⟩ := List.getElem?_eq_some_iff.1 hrn
      obtain ⟨hm1, hm2⟩ := List.getElem?_eq_some_iff.1 hm
      have h3 := HX.out.rows.2.2 n hn1 hm1
      rw [hn2, hm2] at h3
      exact SliceK.of_owns (enc := encI) encI_len rfl (by rw [flat_encI]; have := h3.1; exact h3)
     have HVI := Lib.hid (visible_any lo B t _ ev _ cur l wC HV.out (HL.out.below hbl0) (HEE.out.below hbl0) hrs hk hl.symm)
     have HST : Hid (∀ w', Below w0.heap.size w0 w' → Calls Tryz.prog 50 #[.agg #[.int .i64 p.states, .int .i64 p.initial, lv2, ev2], .int .i64 y, .string l] w' fun e w'' => e = .returned (.int .i64 (goTo p y l)) ∧ Below w'.heap.size w' w'') := fun w' hb => step_any lo p lv2 ev2 y l w' HVP.out HSP.out (HL2.out.below hb) (HE2.out.below hb)
     have hGM := HG.out.mid (by rw [HJJ.out]; exact qw_keep HV.out HVP.out c d) HCU.out j (by rw [HJJ.out]; show j ≤ t.labels.length - 1; rw [← HLL.out]; omega)
     have hfew := pwmid_few J n (cur, y) S0 j
     have hds := pwmid_succ J n (cur, y) S0 j
     obtain ⟨M, hM⟩ : ∃ M, M = pwmid J n (cur, y) S0 j := ⟨_, rfl⟩
     rw [← hM] at HX hGM hfew hds
     have HGM := Lib.hid hGM
     have HDS := Lib.hid hds
     have hkj : (((j + 1 : Nat)) : Int) = (j : Int) + 1 := by omega
     rw [hkj] at HVI
     have hML : (M.rows.length ≤ 1000 ∧ M.edges.length ≤ 1000) := by omega
     obtain ⟨hm1, hm2⟩ := hML
     have HGC := Lib.hid (HGL.out.below hbl0)
     have HGT := Lib.hid hgl
     have HB0 := Lib.hid hbl0
     have hcw : bl < wC.heap.size := Nat.lt_of_lt_of_le hblw hbl0.size
     clear hl hrn hrs hM hGM hfew hds hk hbl0
     go_wp2_with fail
     refine Calls.mono HVI.out ?_
     rintro e8 w8 ⟨v8, rfl, hb8, ho8⟩
     have HB8 := Lib.hid (HBL.out.trans (hb8.mono hszC))
     have HX8 := Lib.hid (HX.out.below hb8)
     have HXB8 := Lib.hid (HXB.out.below hb8)
     have HOC8 := Lib.hid (HOC.out.below hb8)
     obtain ⟨nx, hnx⟩ : ∃ nx, nx = nextS t cur ((j : Int) + 1) := ⟨_, rfl⟩
     have HNX := Lib.hid hnx
     rw [← hnx] at ho8
     have HO8 := Lib.hid ho8
     obtain ⟨a8, c8, rfl, -, -⟩ := owns_slice ho8
     have hs8 : B ≤ w8.heap.size := Nat.le_trans hszC hb8.size
     have HG8 := Lib.hid (HGC.out.below hb8)
     have HB08 := Lib.hid (HB0.out.trans (hb8.mono HB0.out.size))
     clear hb8 ho8 HVI t0 t1 t2 t3 x0 x1 hc hnx HX HXB HOC HBL
     by_cases hem : nx = []
     ·subst hem
      have HN : Hid (pwmid J n (cur, y) S0 (j + 1) = M) := by
       unfold Hid
       rw [HDS.out, pwstep_none (by rw [HJJ.out]; exact nxW_empty HNX.out.symm)]
      clear hgl
      go_wp2
      go_roundw
      case rel => exact ⟨j + 1, sv2, av2, tail, by go_num, by omega, HB8.out, by rw [HN.out]; exact HX8.out, HXB8.out, HNS.out, HNA.out⟩
      case measure => simp [intOf]; omega
     ·have hne : nextS t cur ((j : Int) + 1) ≠ [] := by rw [← HNX.out]; exact hem
      have hnl : 0 < nx.length := List.length_pos_iff.2 hem
      have HN : Hid (pwmid J n (cur, y) S0 (j + 1) = ⟨pwadd M.rows (nx, goTo p y l), M.edges ++ [⟨(n : Int), ((j + 1 : Nat) : Int), (pwplace M.rows (nx, goTo p y l) : Int)⟩]⟩) := by
       unfold Hid
       rw [HDS.out, pwstep_some (by rw [HJJ.out]; exact nxW_open (r := (cur, y)) HV0.out hne)]
       rw [hgl, ← HNX.out, hkj]
      have hqk : QW t p (nx, goTo p y l) := by rw [HNX.out]; exact qw_next HV.out HVP.out hne
      have HRO := Lib.hid (hqk.rok HV.out HVP.out)
      have hrk := WGood.rok HV.out HVP.out (by rw [← HJJ.out]; exact HGM.out)
      have HTO : Hid (∀ w9, Below w8.heap.size w8 w9 → _) := Lib.hid (fun w9 (hb9 : Below w8.heap.size w8 w9) => toW_any B xb mb pb ib rb n (j + 1) wC.heap.size t M sv2 av2 (.slice a8 nx.length c8) (vs ++ tail) nx (goTo p y l) w9 (Nat.le_trans hs8 hb9.size) (HX8.out.below hb9) HGM.out.nodup hrk HRO.out hszC (owns_below HO8.out hb9) hm1 hm2 (HG8.out.below hb9) l HGT.out)
      have hnb : decide (0 < ((nx.length : Nat) : Int)) = true := by rw [decide_eq_true_eq]; omega
      have s4 := HOC8.out.cell 4 rfl
      have s5 := HOC8.out.cell 5 rfl
      have s6 := HOC8.out.cell 6 rfl
      have s7 := HOC8.out.cell 7 rfl
      have x1 := HXB8.out.cell 1 rfl
      obtain ⟨z, hz⟩ : ∃ z, z = goTo p y l := ⟨_, rfl⟩
      rw [← hz] at HTO HST HN
      obtain ⟨NL, hNL⟩ : ∃ NL, NL = nx.length := ⟨_, rfl⟩
      rw [← hNL] at HTO hnl hnb ⊢
      clear hem hne hqk HRO hrk hNL hgl hz hkj
      go_wp2_with fail
      refine Calls.mono (HST.out _ HB08.out) ?_
      rintro e9 w9 ⟨rfl, hb9⟩
      have HB9 := Lib.hid hb9
      clear s4 s5 s6 s7 x1 hb9 HST
      go_wp2_with fail
      refine Calls.mono (HTO.out _ HB9.out) ?_
      rintro e10 w10 ⟨rfl, hb10, sv10, av10, vs10, hx10, hfr, tail10, rfl⟩
      have HB10 := Lib.hid ((HB8.out.trans (HB9.out.mono hs8)).trans hb10)
      have HX10 := Lib.hid hx10
      have HXB9 := HXB8.out.below HB9.out
      have HXB10 := Lib.hid (hfr.blk HXB9 nebx nebm HNS.out HNA.out)
      have HNS10 : Hid (sv10.ownBlock ≠ some b) := fun e => by
       rcases hfr.s b e with h | h
       ·exact HNS.out h
       ·have := HXB9.lt; omega
      have HNA10 : Hid (av10.ownBlock ≠ some b) := fun e => by
       rcases hfr.a b e with h | h
       ·exact HNA.out h
       ·have := HXB9.lt; omega
      clear hb10 hx10 hfr HXB9 HTO
      go_wp2
      go_roundw
      case rel => exact ⟨j + 1, sv10, av10, tail ++ tail10, by go_num, by omega, HB10.out, by rw [HN.out, ← List.append_assoc]; exact HX10.out, HXB10.out, HNS10.out, HNA10.out⟩
      case measure => simp [intOf]; omega
    ·have HJ2 : Hid (j = L - 1) := Lib.hid (show j = L - 1 by omega)
     go_wp2
     go_ret
     refine ⟨rfl, HBL.out, sv2, av2, vs ++ tail, ?_, tail, rfl⟩
     rw [← HJ2.out]
     exact HX.out
 ·have hv0 : vdL p c d cur y ≠ 0 := by rw [← HVDD.out]; exact h0
  have HD : Hid (pwmid J n (cur, y) S0 (L - 1) = S0) := by
   unfold Hid
   rw [HJJ.out]
   exact pwmid_none (fun k => nxW_shut hv0 k) _
  have hnb : ((vd : Int) == 0) = false := by simpa using h0
  clear hv0
  go_wp2
  go_ret
  refine ⟨rfl, HB1.out, sv, av, vs, ?_, [], by simp⟩
  rw [HD.out]
  exact HX1.out

end Go.Proofs.YtmhpfmanagbggaaGreatDoor

namespace Go.Proofs.YtmhpfmanagbggaaGreatDoor
open Go Go.RowKit

theorem wex_results {w : World} {b : Nat} {v0 v1 v2 v3 : Value} {tmps : Array Value} (hc : tmps.getD 6 undef = .pointer (some ⟨b, 0, none⟩)) (hb : Blk w b [v0, v1, v2, v3] 29) :
  (results Tryz.f46 tmps).run Tryz.prog w = .ok (.tuple #[.agg #[v0, v1, v2, v3], tmps.getD 7 undef, tmps.getD 8 undef]) w := by
 have h0 := hb.cell 0 rfl
 have h1 := hb.cell 1 rfl
 have h2 := hb.cell 2 rfl
 have h3 := hb.cell 3 rfl
 simp only [Array.getD_eq_getD_getElem?] at hc
 simp [results, Tryz.results46, go_sem, hc, h0, h1, h2, h3, Result.andThen]

/-- What explored returns: too large, or the net with its system. -/
def RetExW (t p : Lts) (c d : List Bool) (B : Nat) (w0 : World) (e : Ending) (w' : World) : Prop :=
 Below B w0 w' ∧ ((WFull (jobW t p c d) ∧ ∃ a b a1 n1 c1 a2 n2 c2 v, e = .returned (.tuple #[.agg #[.int .i64 a, .int .i64 b, .slice a1 n1 c1, .slice a2 n2 c2], v, .bool false]))
  ∨ ∃ st lv ev sv, PWOk (jobW t p c d) st ∧ WGood (jobW t p c d) (QW t p) st ∧ Up st.edges ∧ e = .returned (.tuple #[.agg #[.int .i64 st.rows.length, .int .i64 0, lv, ev], sv, .bool true])
   ∧ w'.ownsRow B 9 1 lv (sysOf (wT t) (wNet st)).labels.length ((sysOf (wT t) (wNet st)).labels.map .string) ∧ w'.ownsRow B 67 3 ev (sysOf (wT t) (wNet st)).edges.length ((sysOf (wT t) (wNet st)).edges.flatMap encE) ∧ ∃ vs, OwnW B w' sv vs st.rows)

set_option maxRecDepth 100000 in
set_option maxHeartbeats 8000000 in
theorem exploredW_any (B jb ob lo S P bm g1 bm2 g2 : Nat) (gs gs2 : List Nat) (t p : Lts) (c d : List Bool) (lv ev lv2 ev2 fv : Value) (w0 w : World) (hO : Both lo S P t p lv ev lv2 ev2 w0) (hm : Mat w0 bm S P c g1 gs) (hm2 : Mat w0 bm2 S P d g2 gs2)
  (hj : Blk w0 jb [.slice (some ⟨g1, 0, none⟩) S S, .slice (some ⟨g2, 0, none⟩) S S] 74) (hob : Blk w0 ob [.int .i64 t.states, .int .i64 t.initial, lv, ev, .int .i64 p.states, .int .i64 p.initial, lv2, ev2] 51) (hB : B = w0.heap.size) (hbl : Below B w0 w)
  (hf : w.ownsRow B 2 1 fv (firstS t).length ((firstS t).map (Value.int .i64))) (g : Glob w0) (hsh : Short20 t.labels) :
  Calls Tryz.prog 46 #[.agg #[fv, .int .i64 p.initial], .func (.func 43) #[] #[], .func (.func 47) #[] #[.pointer (some ⟨jb, 0, none⟩), .pointer (some ⟨ob, 0, none⟩)]] w (RetExW t p c d B w0) := by
 have hv := hO.vt
 have hvp := hO.vp
 have HKP := Lib.hid (qw_keep hv hvp c d)
 have HFR := Lib.hid ((qw_first hv hvp).rok hv hvp)
 have HVW := Lib.hid (wT_valid hv)
 have HOO := Lib.hid hO
 have HM1 := Lib.hid hm
 have HM2 := Lib.hid hm2
 have HJB := Lib.hid hj
 have HOB := Lib.hid hob
 have hlpos := hv.labels.pos
 have hlmost := hv.labels.most
 have HV := Lib.hid hv
 have HG := Lib.hid g
 have HSH := Lib.hid hsh
 have HB := Lib.hid hB
 have hszB : B ≤ w.heap.size := by rw [hB]; exact hbl.size
 obtain ⟨rb, hrb⟩ : ∃ rb, rb = w.heap.size + 1 := ⟨_, rfl⟩
 obtain ⟨J, hJ⟩ : ∃ J, J = jobW t p c d := ⟨_, rfl⟩
 have hJm : J.m = t.labels.length - 1 := by rw [hJ]; rfl
 obtain ⟨fa, fc, rfl, -, -⟩ := owns_slice hf
 obtain ⟨FL, hFL⟩ : ∃ FL, FL = (firstS t).length := ⟨_, rfl⟩
 rw [← hFL] at hf
 rw [← hFL]
 -- the world at the first find
 obtain ⟨Wb, hWb⟩ : ∃ Wb, Wb = w.alloc (.cells #[.slice fa FL fc, .int .i64 p.initial] 78) := ⟨_, rfl⟩
 have hsb : Wb.heap.size = rb := by rw [hWb, hrb]; simp
 have hbb : Below w.heap.size w Wb := by rw [hWb]; exact (Below.refl _ _).alloc (Nat.le_refl _) _
 obtain ⟨w1, hw1⟩ : ∃ w1, w1 = (((Wb.alloc (.cells #[.int .i64 0, .int .i64 0, .slice none 0 0, .slice none 0 0] 29)).alloc (.map #[] 0)).alloc (.cells #[.slice none 0 0, .map (some (rb + 1)), .slice none 0 0, .func (.func 43) #[] #[]] 116)).alloc (.cells #[.pointer (some ⟨rb + 1 + 1, 0, none⟩)] 113) := ⟨_, rfl⟩
 have hb1' : Below Wb.heap.size Wb w1 := by rw [hw1]; exact ((((Below.refl _ _).alloc (Nat.le_refl _) _).alloc (by simp) _).alloc (by simp; omega) _).alloc (by simp; omega) _
 have hb1 : Below w.heap.size w w1 := hbb.trans (hb1'.mono hbb.size)
 have HX1 : Hid (ExpW B (rb + 1 + 1) (rb + 1) (rb + 1 + 1 + 1) rb rb false 0 t ⟨[], []⟩ (.slice none 0 0) (.slice none 0 0) [] w1) := by
  unfold Hid
  rw [hw1]
  refine ⟨by omega, by omega, by omega, by omega, by omega, ?_, ?_, (fun h => by cases h), ?_, ?_, ?_, World.ownsRow_nil _ _ _ _⟩
  ·have := (Blk.new ((Wb.alloc (.cells #[.int .i64 0, .int .i64 0, .slice none 0 0, .slice none 0 0] 29)).alloc (.map #[] 0)) [.slice none 0 0, .map (some (rb + 1)), .slice none 0 0, .func (.func 43) #[] #[]] 116)
   rw [World.size_alloc, World.size_alloc, hsb] at this
   exact this.alloc _
  ·have := Blk.new (((Wb.alloc (.cells #[.int .i64 0, .int .i64 0, .slice none 0 0, .slice none 0 0] 29)).alloc (.map #[] 0)).alloc (.cells #[.slice none 0 0, .map (some (rb + 1)), .slice none 0 0, .func (.func 43) #[] #[]] 116)) [.pointer (some ⟨rb + 1 + 1, 0, none⟩)] 113
   rw [World.size_alloc, World.size_alloc, World.size_alloc, hsb] at this
   exact this
  ·have := (((Blk.new Wb [.int .i64 0, .int .i64 0, .slice none 0 0, .slice none 0 0] 29).alloc (.map #[] 0)).alloc (.cells #[.slice none 0 0, .map (some (rb + 1)), .slice none 0 0, .func (.func 43) #[] #[]] 116)).alloc (.cells #[.pointer (some ⟨rb + 1 + 1, 0, none⟩)] 113)
   rw [hsb] at this
   exact this
  ·exact ⟨rfl, World.ownsRow_nil _ _ _ _, fun i h _ => absurd h (Nat.not_lt_zero _)⟩
  ·have := NumMap.made .i64 (Wb.alloc (.cells #[.int .i64 0, .int .i64 0, .slice none 0 0, .slice none 0 0] 29))
   rw [World.size_alloc, hsb] at this
   exact this.below (((Below.refl _ _).alloc (Nat.le_refl _) _).alloc (by simp) _)
 have hf1 := owns_below hf hb1
 have HBL1 := Lib.hid (hbl.trans (hb1.mono hszB))
 have hg1 : Glob w1 := g.below (by have := HBL1.out; rw [hB] at this; exact this)
 have HF1 := Lib.hid (findW_any B (rb + 1 + 1) (rb + 1) (rb + 1 + 1 + 1) rb rb false 0 B t ⟨[], []⟩ (.slice none 0 0) (.slice none 0 0) (.slice fa FL fc) [] (firstS t) p.initial w1 (Nat.le_trans hszB hb1.size) HX1.out List.nodup_nil (fun r hr => by cases hr) HFR.out (Nat.le_refl _) (by rw [← hFL]; exact hf1) (by simp) hg1)
 have HW1 := Lib.hid hw1
 have HWB := Lib.hid hWb
 have HJJ := Lib.hid hJ
 have HFL := Lib.hid hFL
 rw [← hJ] at HKP
 have HRB := Lib.hid hrb
 have p1 := HX1.out.ptr.cell 0 rfl
 have hmm := @run_makeMap Tryz.prog
 clear hv hvp hO hm hm2 hj hob g hsh hbl hw1 hb1 hf hf1 hg1 HX1 hB hrb hJ hFL hWb hsb hbb hb1'
 go_enter Tryz.func46, Tryz.ntmps46
 go_wp2_with fail
 rw [← HRB.out, ← HWB.out, ← HW1.out]
 refine Calls.mono HF1.out ?_
 rintro e2 w2 ⟨rfl, hb2, sv2, vs2, hx2, -, -, -⟩
 have HX2 := Lib.hid hx2
 have HB2 := Lib.hid (HBL1.out.trans hb2)
 obtain ⟨xb, hxb⟩ : ∃ xb, xb = rb + 1 + 1 := ⟨_, rfl⟩
 obtain ⟨mb, hmb⟩ : ∃ mb, mb = rb + 1 := ⟨_, rfl⟩
 obtain ⟨pb, hpb⟩ : ∃ pb, pb = rb + 1 + 1 + 1 := ⟨_, rfl⟩
 rw [← hpb, ← hxb, ← hmb] at HX2
 rw [← hpb]
 have hs2 : B ≤ w2.heap.size := by have h1 := HX2.out.ptr.lt; have h2 := HX2.out.pbase; omega
 clear hx2 hb2 HF1 HBL1 p1 hmm hxb hmb hpb
 have HX3 : Hid (ExpW B xb mb pb w2.heap.size rb true 0 t (pwAt J 0) sv2 (.slice none 0 0) vs2 (w2.alloc (.cells #[.int .i64 0] 3))) := by
  have hb : Below w2.heap.size w2 (w2.alloc (.cells #[.int .i64 0] 3)) := (Below.refl _ _).alloc (Nat.le_refl _) _
  have h2 := HX2.out.below hb
  have hd : (⟨pwadd [] (firstS t, p.initial), []⟩ : WNet) = pwAt J 0 := by rw [HJJ.out, pwAt]; rfl
  rw [hd] at h2
  exact ⟨h2.base, h2.mbase, h2.pbase, hs2, h2.rbase, h2.box, h2.ptr, fun _ => Blk.new w2 _ _, h2.res, h2.rows, h2.map, h2.arcs⟩
 go_wp2
 go_loopg [10] 64 (fun gk v10 wr => ∃ (n ib : Nat) (sv av : Value) (vs : List Value), v10 = .pointer (some ⟨ib, 0, none⟩) ∧ WCome J n ∧ (pwAt J n).rows.length ≤ 40 ∧ 64 - n ≤ gk ∧ ExpW B xb mb pb ib rb true n t (pwAt J n) sv av vs wr ∧ Below B w0 wr)
 case atStart => exact ⟨0, w2.heap.size, sv2, _, vs2, rfl, WCome.zero J, by simp [pwAt], by omega, HX3.out, HB2.out.alloc hs2 _⟩
 case round =>
  clear HX3 HB2 HX2
  obtain ⟨n, ib, sv, av, vs, rfl, hcome, h40, hgk, hx, hbl⟩ := hrel
  obtain ⟨wC, rfl⟩ : ∃ wC : World, wC = wr := ⟨_, rfl⟩
  have HCO := Lib.hid hcome
  have HX := Lib.hid hx
  have HBL := Lib.hid hbl
  have HGK := Lib.hid hgk
  have HGD := Lib.hid (WGood.at HKP.out n)
  have HUP := Lib.hid (show Up (pwAt J n).edges from (wUp_at J n).1)
  have hfew := pwAt_few (G := J) (by omega) n
  have hszC : B ≤ wC.heap.size := by rw [HB.out]; exact hbl.size
  have hvl : vs.length = (pwAt J n).rows.length := hx.rows.1
  obtain ⟨sa, cs, rfl, -, -⟩ := owns_slice hx.rows.2.1
  have hn40 : n ≤ 40 := by
   rcases Nat.eq_zero_or_pos n with h | h
   ·omega
   ·have h1 := hcome (n - 1) (by omega)
    have h2 := pwAt_le J (n - 1) 1
    rw [show n - 1 + 1 = n from by omega] at h2
    obtain ⟨⟨r, hr⟩, -⟩ := h2
    rw [hr, List.length_append] at h40
    omega
  obtain ⟨S0, hS0⟩ : ∃ S0, S0 = pwAt J n := ⟨_, rfl⟩
  rw [← hS0] at HX HGD HUP h40 hvl hfew
  have HS0 := Lib.hid hS0
  obtain ⟨R, hR⟩ : ∃ R, R = S0.rows.length := ⟨_, rfl⟩
  rw [← hR] at HX h40 hvl
  have HR := Lib.hid hR
  have hxl := HX.out.box.lt
  have hpl := HX.out.ptr.lt
  have hil := (HX.out.idx rfl).lt
  have lx := later_cell hxl (HX.out.box.cell 0 rfl)
  have lp := later_cell hpl (HX.out.ptr.cell 0 rfl)
  have li := later_cell hil ((HX.out.idx rfl).cell 0 rfl)
  clear hcome hx hbl hgk hS0 hR
  by_cases hlt : n < R
  ·have hlR : n < S0.rows.length := by rw [← HR.out]; exact hlt
   obtain ⟨cur, hcur⟩ : ∃ cur, S0.rows[n]? = some cur := ⟨_, List.getElem?_eq_getElem hlR⟩
   obtain ⟨rn, hrn⟩ : ∃ rn, vs[n]? = some rn := ⟨_, List.getElem?_eq_getElem (show n < vs.length by omega)⟩
   obtain ⟨cs1, cy1⟩ := cur
   have hcg := (List.getElem?_eq_some_iff.1 hcur).2
   obtain ⟨bs, e1, hbs, hcs, hcs'⟩ : ∃ bs, sa = some ⟨bs, 0, none⟩ ∧ bs < wC.heap.size ∧ wC.cell? ⟨bs, n * 2, none⟩ = some rn ∧ wC.cell? ⟨bs, n * 2 + 1, none⟩ = some (.int .i64 cy1) := by
    have h1 := HX.out.rows.2.1
    rw [← HR.out] at h1
    have hg := cellsW_get (vs := vs) (rows := S0.rows) (n := n) (by omega) hlR
    rcases h1.2 with ⟨h, h0⟩ | ⟨bs, c, u, h, -⟩
    ·omega
    ·simp only [Value.slice.injEq, true_and] at h
     obtain ⟨rfl, rfl⟩ := h
     refine ⟨bs, rfl, (h1.lt bs rfl).2, ?_, ?_⟩
     ·rw [h1.cellAt (n * 2) (by omega), hg.1, ← hrn, List.getElem?_eq_getElem]
     ·rw [h1.cellAt (n * 2 + 1) (by omega), hg.2, hcg]
   subst e1
   have HCU := Lib.hid hcur
   have HRN := Lib.hid hrn
   clear hcur hrn hlR hcg
   go_wp2
   refine wp_region_later (by kernel_rfl) (by kernel_rfl) ?_
   repeat (go_big_quiet_step ((fail)))
   refine wpQuiet_nil ?_
   intro _ hw9
   obtain ⟨nl, hw8⟩ := hw9
   subst hw8
   have HX4 := Lib.hid (HX.out.below nl.h)
   have HB4 := Lib.hid (HBL.out.trans (nl.h.mono hszC))
   have hs4 := nl.h.size
   have hcs4 := keeps nl.h hbs hcs
   have hcs4' := keeps nl.h hbs hcs'
   obtain ⟨wD, hwD⟩ : ∃ wD, wD = nl.w := ⟨_, rfl⟩
   rw [← hwD] at HX4 HB4 hs4 hcs4 hcs4' ⊢
   have hbs4 : bs < wD.heap.size := by omega
   have hszD : B ≤ wD.heap.size := by omega
   clear lx lp li hcs hcs' hwD HX HBL
   have lx := later_cell HX4.out.box.lt (HX4.out.box.cell 0 rfl)
   have lp := later_cell HX4.out.ptr.lt (HX4.out.ptr.cell 0 rfl)
   have li := later_cell (HX4.out.idx rfl).lt ((HX4.out.idx rfl).cell 0 rfl)
   have lc := later_cell hbs4 hcs4
   have lc' := later_cell hbs4 hcs4'
   have hni : (n : Int) < (R : Int) := by omega
   go_wp2
   refine wp_region_later_tail 9 (by kernel_rfl) (by kernel_rfl) ?_
   simp only [List.take_succ_cons, List.take_zero, List.drop_succ_cons, List.drop_zero]
   repeat (go_big_quiet_step ((fail)))
   refine wpQuiet_nil ?_
   intro _ hw9
   obtain ⟨nl, hw8⟩ := hw9
   subst hw8
   have HX5 := Lib.hid (HX4.out.below nl.h)
   have HB5 := Lib.hid (HB4.out.trans (nl.h.mono hszD))
   have HMV := Lib.hid (movesW_any B xb mb pb ib rb n jb ob lo S P bm g1 bm2 g2 gs gs2 t p c d S0 cs1 cy1 (.slice (some ⟨bs, 0, none⟩) R cs) av lv ev lv2 ev2 rn vs w0 nl.w HOO.out HM1.out HM2.out HJB.out HOB.out HB.out HB5.out HX5.out HG.out (by rw [← HJJ.out]; exact HGD.out) (by rw [← HR.out]; exact h40) (by omega) HCU.out HRN.out)
   rw [← HJJ.out, ← hJm] at HMV
   have hda := pwAt_succ (G := J) (n := n) (cur := (cs1, cy1)) (by rw [← HS0.out]; exact HCU.out)
   rw [← HS0.out] at hda
   rw [← hda] at HMV
   have HDA := Lib.hid hda
   clear lx lp li lc lc' hcs4 hcs4' hbs4 HX4 HX5 HB4 hda hbs
   go_wp2_with fail
   refine Calls.mono HMV.out ?_
   rintro e6 w6 ⟨rfl, hb6, sv6, av6, vs6, hx6, -⟩
   have HX6 := Lib.hid hx6
   have HB6 := Lib.hid hb6
   have hvl6 : vs6.length = (pwAt J (n + 1)).rows.length := hx6.rows.1
   obtain ⟨sa6, cs6, rfl, -, -⟩ := owns_slice hx6.rows.2.1
   have HCN := Lib.hid (HCO.out.succ (by rw [← HS0.out, ← HR.out]; exact hlt))
   obtain ⟨R6, hR6⟩ : ∃ R6, R6 = (pwAt J (n + 1)).rows.length := ⟨_, rfl⟩
   rw [← hR6] at hvl6 HX6
   have HR6 := Lib.hid hR6
   have hs6 : B ≤ w6.heap.size := by have h1 := HX6.out.ptr.lt; have h2 := HX6.out.pbase; omega
   have p6 := HX6.out.ptr.cell 0 rfl
   have x6 := HX6.out.box.cell 0 rfl
   have i6 := (HX6.out.idx rfl).cell 0 rfl
   have i6f := (HX6.out.idx rfl).frozen 0
   have hil6 := (HX6.out.idx rfl).lt
   clear hx6 hb6 HMV hR6
   by_cases h41 : 40 < R6
   ·have HFU : Hid (WFull J) := by
     refine ⟨n, J.m, (cs1, cy1), HCO.out, by rw [← HS0.out]; exact HCU.out, Nat.le_refl _, fun h => ?_⟩
     rw [← HS0.out, ← HDA.out] at h
     have h1 := h.1
     have h2 := HR6.out
     omega
    have r0 := HX6.out.res.cell 0 rfl
    have r1 := HX6.out.res.cell 1 rfl
    have r2 := HX6.out.res.cell 2 rfl
    have r3 := HX6.out.res.cell 3 rfl
    have f0 := HX6.out.res.frozen 0
    have f1 := HX6.out.res.frozen 1
    have f2 := HX6.out.res.frozen 2
    have f3 := HX6.out.res.frozen 3
    have h41b : decide ((40 : Int) < ((R6 : Nat) : Int)) = true := by rw [decide_eq_true_eq]; omega
    go_wp2
    refine bodyPost_ret (wex_results rfl ((((HX6.out.res.set 0 _).set 1 _).set 2 _).set 3 _)) rfl ?_
    exact ⟨(((HB6.out.setCell HX6.out.rbase _).setCell HX6.out.rbase _).setCell HX6.out.rbase _).setCell HX6.out.rbase _, .inl ⟨by rw [← HJJ.out]; exact HFU.out, _, _, _, _, _, _, _, _, _, rfl⟩⟩
   ·have h41b : decide ((40 : Int) < ((R6 : Nat) : Int)) = false := by rw [decide_eq_false_iff_not]; omega
    have HXT := Lib.hid (HX6.out.turn (j := n + 1) hs6)
    have hcast : (((n + 1 : Nat)) : Int) = (n : Int) + 1 := by omega
    rw [hcast] at HXT
    clear hcast
    go_wp2
    go_roundg (64 - (n + 1))
    case measure => have := HGK.out; omega
    case rel =>
     refine ⟨n + 1, w6.heap.size, _, _, _, rfl, HCN.out, by rw [← HR6.out]; omega, Nat.le_refl _, HXT.out, HB6.out.alloc hs6 _⟩
  ·have hdone := HCO.out
   have HFD : Hid (WFound J S0) := by
    refine ⟨n, HCO.out, HS0.out.symm, ?_⟩
    have h1 : n ≤ R := by
     rcases Nat.eq_zero_or_pos n with h | h
     ·omega
     ·have h2 := HCO.out (n - 1) (by omega)
      have h3 := pwAt_le J (n - 1) 1
      rw [show n - 1 + 1 = n from by omega] at h3
      obtain ⟨⟨r, hr⟩, -⟩ := h3
      have h4 := HR.out
      rw [HS0.out, hr, List.length_append] at h4
      omega
    rw [← HR.out]
    omega
   clear hdone
   go_wp2
   refine wp_region_later (by kernel_rfl) (by kernel_rfl) ?_
   repeat (go_big_quiet_step ((fail)))
   refine wpQuiet_nil ?_
   intro _ hw9
   obtain ⟨nl, hw8⟩ := hw9
   subst hw8
   have HX4 := Lib.hid (HX.out.below nl.h)
   have HB4 := Lib.hid (HBL.out.trans (nl.h.mono hszC))
   have hs4 := nl.h.size
   obtain ⟨wD, hwD⟩ : ∃ wD, wD = nl.w := ⟨_, rfl⟩
   rw [← hwD] at HX4 HB4 hs4 ⊢
   have hszD : B ≤ wD.heap.size := by omega
   clear lx lp li hwD HX HBL
   have hxl := HX4.out.box.lt
   have hpl := HX4.out.ptr.lt
   have hD : Below wD.heap.size wD wD.drew := (Below.refl _ _).drew
   have p0 := HX4.out.ptr.cell 0 rfl
   have x0 := HX4.out.box.cell 0 rfl
   have x2 := HX4.out.box.cell 2 rfl
   have P0 := keeps hD hpl p0
   have X0 := keeps hD hxl x0
   have X2 := keeps hD hxl x2
   have hfe : S0.edges.length ≤ 440 := by omega
   have HWG : Hid (DGood (wT t) (wNet S0)) := wNet_good HGD.out hJm HV.out.labels.pos (by rw [← HR.out]; exact h40)
   have HWU : Hid (Up (wNet S0).edges) := HUP.out
   have HAR : Hid (wD.ownsRow B 119 3 av (arcsOf (wT t) (wNet S0)).length ((arcsOf (wT t) (wNet S0)).flatMap encC)) := by
    have h1 := HX4.out.arcs
    rw [show encA t = encA (wT t) from rfl, encA_encC] at h1
    unfold Hid arcsOf
    rw [List.length_map]
    exact h1
   have hal : (arcsOf (wT t) (wNet S0)).length ≤ 1000 := by unfold arcsOf; rw [List.length_map]; show S0.edges.length ≤ 1000; omega
   obtain ⟨us, hus⟩ : ∃ us, us = (arcsOf (wT t) (wNet S0)).map Arc.lab := ⟨_, rfl⟩
   obtain ⟨Ls, hLs⟩ : ∃ Ls, Ls = (sysOf (wT t) (wNet S0)).labels := ⟨_, rfl⟩
   obtain ⟨Es, hEs⟩ : ∃ Es, Es = (sysOf (wT t) (wNet S0)).edges := ⟨_, rfl⟩
   have hul : us.length = (arcsOf (wT t) (wNet S0)).length := by rw [hus, List.length_map]
   have HLO : Hid (∀ (W : World), Below wD.heap.size wD W → Calls Tryz.prog 81 #[av] W (fun e w9 => ∃ v9, e = .returned v9 ∧ Below wD.heap.size wD w9 ∧ Below W.heap.size W w9 ∧ w9.ownsRow wD.heap.size 9 1 v9 us.length (us.map .string))) := by
    intro W hb
    rw [hus]
    refine (labelsOf_any B av (arcsOf (wT t) (wNet S0)) W ((SliceK.of_owns (enc := encC) encC_len rfl HAR.out).below hb) (by omega)).mono ?_
    rintro e w9 ⟨v9, h1, h2, h3⟩
    exact ⟨v9, h1, hb.trans (h2.mono hb.size), h2, own_lower h3 hb.size⟩
   have HLT : Hid (∀ (v9 : Value) (W : World), Below wD.heap.size wD W → SrcS W v9 us → Calls Tryz.prog 51 #[.int .i64 R, .int .i64 0, v9, av] W (fun e w8 => ∃ la lc ea ec, e = .returned (.agg #[.int .i64 R, .int .i64 0, .slice la Ls.length lc, .slice ea Es.length ec]) ∧ Below wD.heap.size wD w8 ∧ Below W.heap.size W w8
     ∧ w8.ownsRow wD.heap.size 9 1 (.slice la Ls.length lc) Ls.length (Ls.map .string) ∧ w8.ownsRow wD.heap.size 67 3 (.slice ea Es.length ec) Es.length (Es.flatMap encE))) := by
    intro v9 W hb h1
    have h3 := lts_any B R 0 us (arcsOf (wT t) (wNet S0)) v9 av W h1 ((SliceK.of_owns (enc := encC) encC_len rfl HAR.out).below hb) (by rw [hul]; exact hal) hal Ls (by rw [hLs, hus]; rfl) (by rw [hLs]; exact arc_mem HVW.out HWG.out) (by rw [hLs]; exact sys_rise HVW.out HWG.out HWU.out)
    have hEs2 : (arcsOf (wT t) (wNet S0)).map (edgeIn Ls) = Es := by rw [hEs, hLs]; rfl
    rw [hEs2] at h3
    refine h3.mono ?_
    rintro e w8 ⟨lv8, ev8, h4, h5, h6, h7⟩
    obtain ⟨la, lc, rfl, -, -⟩ := owns_slice h6
    obtain ⟨ea, ec, rfl, -, -⟩ := owns_slice h7
    exact ⟨la, lc, ea, ec, h4, hb.trans (h5.mono hb.size), h5, own_lower h6 hb.size, own_lower h7 hb.size⟩
   have HLs := Lib.hid hLs
   have HEs := Lib.hid hEs
   have hDZ : Below wD.heap.size wD ((wD.alloc (.cells #[.int .i64 0, .int .i64 0, .slice none 0 0, .slice none 0 0] 29)).drew) := ((Below.refl _ _).alloc (Nat.le_refl _) _).drew
   have BZ : Blk ((wD.alloc (.cells #[.int .i64 0, .int .i64 0, .slice none 0 0, .slice none 0 0] 29)).drew) wD.heap.size [.int .i64 0, .int .i64 0, .slice none 0 0, .slice none 0 0] 29 := (Blk.new wD _ _)
   have HDZ := Lib.hid hDZ
   have HBZ := Lib.hid BZ
   have HDD := Lib.hid hD
   clear hfe hus hLs hEs hDZ BZ hD
   go_wp2
   go_region_held3 (fun w' => w'.cell? ⟨pb, 0, none⟩ = some (.pointer (some ⟨xb, 0, none⟩)) ∧ w'.cell? ⟨xb, 0, none⟩ = some (.slice sa R cs) ∧ w'.cell? ⟨xb, 2, none⟩ = some av)
    (first
     | (refine ⟨?_, ?_, ?_⟩ <;> with_reducible assumption)
     | (refine ⟨?_, ?_, ?_⟩ <;> (rw [World.cell?_setCell_far _ _ _ _ (by first | exact fun e => np e.symm | exact fun e => nx e.symm), World.cell?_setCell_far _ _ _ _ (by first | exact fun e => np e.symm | exact fun e => nx e.symm), World.cell?_setCell_far _ _ _ _ (by first | exact fun e => np e.symm | exact fun e => nx e.symm), World.cell?_setCell_far _ _ _ _ (by first | exact fun e => np e.symm | exact fun e => nx e.symm)]; with_reducible assumption))
     | go_keep)
    (first
     | (go_at_call 81; refine Calls.mono (HLO.out _ (by first | with_reducible exact HDD.out | with_reducible exact HDZ.out)) ?_; rintro e w9 ⟨v9, rfl, hw9, hb9, ho9⟩; have k0 := keeps hw9 hpl p0; have k1 := keeps hw9 hxl x0; have k2 := keeps hw9 hxl x2; (try (have QZ : Hid (Blk w9 wD.heap.size [.int .i64 0, .int .i64 0, .slice none 0 0, .slice none 0 0] 29) := Lib.hid (by with_reducible exact HBZ.out.below hb9))); have HSL := Lib.hid (SrcS.of_own ho9))
     | (go_at_call 51; refine Calls.mono (HLT.out v9 _ (by first | with_reducible exact hw9 | with_reducible exact hw9.alloc hw9.size _) (by first | with_reducible exact HSL.out | with_reducible exact HSL.out.below (box_below9 _ _ _))) ?_; rintro e w8 ⟨la, lc, ea, ec, rfl, hw8, hb8, ho8, he8⟩; have k4 := keeps hw8 hpl p0; have k5 := keeps hw8 hxl x0; have k6 := keeps hw8 hxl x2; ((try (have QY : Blk w8 wD.heap.size [.int .i64 0, .int .i64 0, .slice none 0 0, .slice none 0 0] 29 := by with_reducible exact QZ.out.below hb8)); (try (have q0 := QY.cell 0 rfl; have q1 := QY.cell 1 rfl; have q2 := QY.cell 2 rfl; have q3 := QY.cell 3 rfl; have f0 := QY.frozen 0; have f1 := QY.frozen 1; have f2 := QY.frozen 2; have f3 := QY.frozen 3; have hq := QY.lt; have np : pb ≠ wD.heap.size := (by omega); have nx : xb ≠ wD.heap.size := (by omega)))); ((have HN9 := blk_new9 w9); (try (have QX : Blk w8 w9.heap.size [.int .i64 0, .int .i64 0, .slice none 0 0, .slice none 0 0] 29 := by with_reducible exact HN9.below hb8)); (try (have q0 := QX.cell 0 rfl; have q1 := QX.cell 1 rfl; have q2 := QX.cell 2 rfl; have q3 := QX.cell 3 rfl; have f0 := QX.frozen 0; have f1 := QX.frozen 1; have f2 := QX.frozen 2; have f3 := QX.frozen 3; have hq := QX.lt; have np : pb ≠ w9.heap.size := (by have := hw9.size; omega); have nx : xb ≠ w9.heap.size := (by have := hw9.size; omega))))))
   all_goals (
    first
     | (
      have h1 := four_sets (v0 := .int .i64 R) (v1 := .int .i64 0) (v2 := .slice la Ls.length lc) (v3 := .slice ea Es.length ec) QX hw8 hw9.size
      have hle := h1.2.2 ho8 (by decide)
      have hee := h1.2.2 he8 (by decide)
      have hwe := h1.1
      have hbe := h1.2.1
      have hlo : wD.heap.size ≤ w9.heap.size := hw9.size
      obtain ⟨WE, hWE⟩ : ∃ WE, WE = (((w8.setCell ⟨w9.heap.size, 0, none⟩ (.int .i64 R)).setCell ⟨w9.heap.size, 1, none⟩ (.int .i64 0)).setCell ⟨w9.heap.size, 2, none⟩ (.slice la Ls.length lc)).setCell ⟨w9.heap.size, 3, none⟩ (.slice ea Es.length ec) := ⟨_, rfl⟩
      rw [← hWE] at hle hee hwe hbe ⊢
      obtain ⟨b12, hb12⟩ : ∃ b12, b12 = w9.heap.size := ⟨_, rfl⟩
      rw [← hb12] at hbe hlo ⊢
      clear hWE hb12 h1)
     | (
      have h1 := four_sets (v0 := .int .i64 R) (v1 := .int .i64 0) (v2 := .slice la Ls.length lc) (v3 := .slice ea Es.length ec) QY hw8 (Nat.le_refl _)
      have hle := h1.2.2 ho8 (by decide)
      have hee := h1.2.2 he8 (by decide)
      have hwe := h1.1
      have hbe := h1.2.1
      obtain ⟨WE, hWE⟩ : ∃ WE, WE = (((w8.setCell ⟨wD.heap.size, 0, none⟩ (.int .i64 R)).setCell ⟨wD.heap.size, 1, none⟩ (.int .i64 0)).setCell ⟨wD.heap.size, 2, none⟩ (.slice la Ls.length lc)).setCell ⟨wD.heap.size, 3, none⟩ (.slice ea Es.length ec) := ⟨_, rfl⟩
      rw [← hWE] at hle hee hwe hbe ⊢
      obtain ⟨b12, hb12⟩ : ∃ b12, b12 = wD.heap.size := ⟨_, rfl⟩
      have hlo : wD.heap.size ≤ b12 := Nat.le_of_eq hb12.symm
      rw [← hb12] at hbe ⊢
      clear hWE hb12 h1)
     | (
      have hle : (w8.alloc (.cells #[.int .i64 R, .int .i64 0, .slice la Ls.length lc, .slice ea Es.length ec] 29)).ownsRow wD.heap.size 9 1 (.slice la Ls.length lc) Ls.length (Ls.map .string) := ho8.alloc _
      have hee : (w8.alloc (.cells #[.int .i64 R, .int .i64 0, .slice la Ls.length lc, .slice ea Es.length ec] 29)).ownsRow wD.heap.size 67 3 (.slice ea Es.length ec) Es.length (Es.flatMap encE) := he8.alloc _
      have hwe : Below wD.heap.size wD (w8.alloc (.cells #[.int .i64 R, .int .i64 0, .slice la Ls.length lc, .slice ea Es.length ec] 29)) := hw8.alloc hw8.size _
      have hbe : Blk (w8.alloc (.cells #[.int .i64 R, .int .i64 0, .slice la Ls.length lc, .slice ea Es.length ec] 29)) w8.heap.size [.int .i64 R, .int .i64 0, .slice la Ls.length lc, .slice ea Es.length ec] 29 := Blk.new w8 _ _
      have hlo : wD.heap.size ≤ w8.heap.size := hw8.size
      obtain ⟨WE, hWE⟩ : ∃ WE, WE = w8.alloc (.cells #[.int .i64 R, .int .i64 0, .slice la Ls.length lc, .slice ea Es.length ec] 29) := ⟨_, rfl⟩
      rw [← hWE] at hle hee hwe hbe ⊢
      obtain ⟨b12, hb12⟩ : ∃ b12, b12 = w8.heap.size := ⟨_, rfl⟩
      rw [← hb12] at hbe hlo ⊢
      clear hWE hb12)
    have HLE := Lib.hid hle
    have HEE2 := Lib.hid hee
    have HWE := Lib.hid hwe
    have HBE := Lib.hid hbe
    clear hle hee hwe hbe
    have hWd : Below WE.heap.size WE WE.drew := (Below.refl _ _).drew
    have hDW : Below wD.heap.size wD WE.drew := HWE.out.trans (hWd.mono HWE.out.size)
    have hgl : Glob WE.drew := HG.out.below (by have h9 := HB4.out.trans (hDW.mono hszD); rw [HB.out] at h9; exact h9)
    obtain ⟨bv, hbv, HVL⟩ : ∃ bv : Bool, (bv = true ↔ WSmall S0) ∧ Hid (Calls Tryz.prog 39 #[.agg #[.int .i64 R, .int .i64 0, .slice la Ls.length lc, .slice ea Es.length ec]] WE.drew fun e w' => e = .returned (.bool bv) ∧ Below WE.drew.heap.size WE.drew w') := by
     have h1 := ValidLts_any wD.heap.size (sysOf (wT t) (wNet S0)) (.slice la Ls.length lc) (.slice ea Es.length ec) WE.drew (sys_short HVW.out HWG.out HSH.out)
      (by have h9 := (SliceK.of_owns (enc := encS) encS_len rfl (by rw [flat_encS]; exact HLE.out)).below hWd; rw [HLs.out] at h9 ⊢; exact h9)
      (by have h9 := (SliceK.of_owns (enc := encE) encE_len rfl HEE2.out).below hWd; rw [HEs.out] at h9 ⊢; exact h9) hgl
     have h2 : (sysOf (wT t) (wNet S0)).states = (R : Int) := by rw [HR.out]; show (((wNet S0).rows.length : Nat) : Int) = _; rw [wNet_len]
     have h3 : (sysOf (wT t) (wNet S0)).initial = 0 := rfl
     rw [h2, h3] at h1
     have h4 := sys_valid HVW.out HWG.out HWU.out
     by_cases hs : WSmall S0
     ·exact ⟨true, by simp [hs], Decides.yes h1 (h4.2 ((wNet_small S0).2 hs))⟩
     ·exact ⟨false, by simp [hs], Decides.no h1 (fun h => hs ((wNet_small S0).1 (h4.1 h)))⟩
    have HBV := Lib.hid hbv
    have hlb := HBE.out.lt
    have hpW : pb < WE.heap.size := by have := HWE.out.size; omega
    have hxW : xb < WE.heap.size := by have := HWE.out.size; omega
    have b0 := keeps hWd hlb (HBE.out.cell 0 rfl)
    have b1 := keeps hWd hlb (HBE.out.cell 1 rfl)
    have b2 := keeps hWd hlb (HBE.out.cell 2 rfl)
    have b3 := keeps hWd hlb (HBE.out.cell 3 rfl)
    have b4 := keeps hDW hpl p0
    have b5 := keeps hDW hxl x0
    have hrl := HX4.out.res.lt
    have hnb : b12 ≠ rb := by omega
    have hnp : pb ≠ rb := blk_blk_ne HX4.out.ptr HX4.out.res (by decide)
    have hnx : xb ≠ rb := blk_blk_ne HX4.out.box HX4.out.res (by decide)
    have HDWW := Lib.hid hDW
    clear hbv hWd hDW hgl k0 k1 k2 k4 k5 k6
    go_wp2
    go_region_held3 (fun w' => w'.cell? ⟨b12, 0, none⟩ = some (.int .i64 R) ∧ w'.cell? ⟨b12, 1, none⟩ = some (.int .i64 0) ∧ w'.cell? ⟨b12, 2, none⟩ = some (.slice la Ls.length lc) ∧ w'.cell? ⟨b12, 3, none⟩ = some (.slice ea Es.length ec) ∧ w'.cell? ⟨pb, 0, none⟩ = some (.pointer (some ⟨xb, 0, none⟩)) ∧ w'.cell? ⟨xb, 0, none⟩ = some (.slice sa R cs))
     (first
      | (refine ⟨?_, ?_, ?_, ?_, ?_, ?_⟩ <;> with_reducible assumption)
      | (refine ⟨?_, ?_, ?_, ?_, ?_, ?_⟩ <;> (rw [World.cell?_setCell_far _ _ _ _ (by first | exact fun e => hnb e.symm | exact fun e => hnp e.symm | exact fun e => hnx e.symm), World.cell?_setCell_far _ _ _ _ (by first | exact fun e => hnb e.symm | exact fun e => hnp e.symm | exact fun e => hnx e.symm), World.cell?_setCell_far _ _ _ _ (by first | exact fun e => hnb e.symm | exact fun e => hnp e.symm | exact fun e => hnx e.symm), World.cell?_setCell_far _ _ _ _ (by first | exact fun e => hnb e.symm | exact fun e => hnp e.symm | exact fun e => hnx e.symm)]; with_reducible assumption))
      | go_keep)
     (first
      | (go_at_call 39; refine Calls.mono HVL.out ?_; rintro e wV ⟨rfl, hbV⟩; have c0 := keeps hbV (by simp; omega) b0; have c1 := keeps hbV (by simp; omega) b1; have c2 := keeps hbV (by simp; omega) b2; have c3 := keeps hbV (by simp; omega) b3; have c4 := keeps hbV (by simp; omega) b4; have c5 := keeps hbV (by simp; omega) b5; have HDV := Lib.hid (HDWW.out.trans (hbV.mono HDWW.out.size)); have HRV := Lib.hid (HX4.out.res.below HDV.out); have r0 := HRV.out.cell 0 rfl; have r1 := HRV.out.cell 1 rfl; have r2 := HRV.out.cell 2 rfl; have r3 := HRV.out.cell 3 rfl; have s0 := HRV.out.frozen 0; have s1 := HRV.out.frozen 1; have s2 := HRV.out.frozen 2; have s3 := HRV.out.frozen 3; have HBVV := Lib.hid hbV))
    all_goals (
     have hBV := HB4.out.trans (HDV.out.mono hszD)
     have hrB := HX4.out.rbase
     have hLV := own_lower (owns_below (owns_below HLE.out (Below.drew (Below.refl _ _))) HBVV.out) hszD
     have hEV := own_lower (owns_below (owns_below HEE2.out (Below.drew (Below.refl _ _))) HBVV.out) hszD
     have hIV := HX4.out.rows.below HDV.out
     have HA1 := Lib.hid hBV
     have HA2 := Lib.hid hLV
     have HA3 := Lib.hid hEV
     have HA4 := Lib.hid hIV
     clear hBV hLV hEV hIV
     go_wp2
     refine bodyPost_ret (wex_results rfl ((((HRV.out.set 0 _).set 1 _).set 2 _).set 3 _)) rfl ?_
     refine ⟨(((HA1.out.setCell hrB _).setCell hrB _).setCell hrB _).setCell hrB _, ?_⟩
     cases bv
     ·exact .inl ⟨by rw [← HJJ.out]; exact pwfound_full HFD.out HGD.out.some (fun h => by have := HBV.out.2 h; cases this), _, _, _, _, _, _, _, _, _, rfl⟩
     ·refine .inr ⟨S0, .slice la Ls.length lc, .slice ea Es.length ec, _, by rw [← HJJ.out]; exact ⟨HFD.out, HBV.out.1 rfl⟩, by rw [← HJJ.out]; exact HGD.out, HUP.out, by rw [← HR.out]; rfl, ?_, ?_, vs, ?_⟩
      ·rw [← HLs.out]; exact own4 HRV.out HA2.out (by decide)
      ·rw [← HEs.out]; exact own4 HRV.out HA3.out (by decide)
      ·exact (((HA4.out.set1 HRV.out (by decide) (by decide) 0 _).set1 (HRV.out.set 0 _) (by decide) (by decide) 1 _).set1 ((HRV.out.set 0 _).set 1 _) (by decide) (by decide) 2 _).set1 (((HRV.out.set 0 _).set 1 _).set 2 _) (by decide) (by decide) 3 _))

end Go.Proofs.YtmhpfmanagbggaaGreatDoor

namespace Go.Proofs.YtmhpfmanagbggaaGreatDoor
open Go Go.RowKit

/-- The verdicts of the first n rows. -/
def vdsTo (p : Lts) (c d : List Bool) (rs : List WSt) (n : Nat) : List Int := (rs.take n).map fun r => vdL p c d r.1 r.2
theorem vdsTo_len (p : Lts) (c d : List Bool) {rs : List WSt} {n : Nat} (h : n ≤ rs.length) : (vdsTo p c d rs n).length = n := by unfold vdsTo; rw [List.length_map, List.length_take]; omega
theorem vdsTo_succ (p : Lts) (c d : List Bool) {rs : List WSt} {n : Nat} {r : WSt} (h : rs[n]? = some r) : vdsTo p c d rs (n + 1) = vdsTo p c d rs n ++ [vdL p c d r.1 r.2] := by
 unfold vdsTo
 rw [List.take_add_one, h, List.map_append]
 rfl
theorem vdsTo_more (p : Lts) (c d : List Bool) (rs : List WSt) {u : List WSt} {n : Nat} (h : n ≤ rs.length) : vdsTo p c d (rs ++ u) n = vdsTo p c d rs n := by unfold vdsTo; rw [List.take_append_of_le_length h]
theorem vdsTo_all (p : Lts) (c d : List Bool) (rs : List WSt) : vdsTo p c d rs rs.length = rs.map fun r => vdL p c d r.1 r.2 := by unfold vdsTo; rw [List.take_length]

end Go.Proofs.YtmhpfmanagbggaaGreatDoor

namespace Go.Proofs.YtmhpfmanagbggaaGreatDoor
open Go Go.RowKit

/-- lts over the labels of the system gives the net's edges back. -/
theorem lts_back {lo2 : Nat} {t : Lts} {st : DNet} {lv av : Value} {w : World} (hv : Valid t) (hG : DGood t st) (hu : Up st.edges) (hs : DSmall st) (hl : SrcS w lv t.labels) (ha : SliceK 3 encC lo2 w av (arcsOf t st)) :
  Calls Tryz.prog 51 #[.int .i64 st.rows.length, .int .i64 0, lv, av] w (RetLts st.rows.length 0 t.labels st.edges w) := by
 have h := lts_any lo2 st.rows.length 0 t.labels (arcsOf t st) lv av w hl ha (by have := hv.labels.most; omega) (by unfold arcsOf; rw [List.length_map]; have := hs.2; omega) t.labels (all_used hv.labels)
  (fun a ha => used_mem hG _ (List.mem_map.2 ⟨a, ha, rfl⟩)) (by rw [edge_back hv hG]; exact rise_up hu)
 rw [edge_back hv hG] at h
 exact h

end Go.Proofs.YtmhpfmanagbggaaGreatDoor
