/-
  For all arguments the law FnEnforced answers true.
-/
import Derived.Test.YtmeibnhhlknbfaaGreatDoorF20
import Derived.Test.YtmeibnhhlknbfaaGreatDoorF21
import Derived.Test.YtmeibnhhlknbfaaGreatDoorF22
namespace Go.Proofs.YtmeibnhhlknbfaaGreatDoor
open Go Go.RowKit


theorem short6 {ls : List ByteArray} (h : ∀ l ∈ ls, l.size ≤ 6) : Short20 ls := fun i hi => by have := h _ (List.getElem_mem hi); omega
theorem short6' {ls : List ByteArray} (h : ∀ l ∈ ls, l.size ≤ 6) : Short ls := fun i hi => by have := h _ (List.getElem_mem hi); omega
/-- What the enforced trace's run tells. -/
theorem enf_run {m : Mon} {tr outs : List ByteArray} {v n c : Int} (h : EnfIs m tr outs 0) (hr : RunIs m outs v n c) : c = 0 ∧ v ≠ 2 ∧ outs.length ≤ tr.length ∧ (v = 0 → n = outs.length) := by
 rcases h with ⟨-, -, h⟩ | ⟨-, -, -, h⟩ | ⟨-, -, -, -, h⟩ | ⟨h1, h2, h3, rfl, -⟩
 ·cases h
 ·cases h
 ·cases h
 ·have hk := h1.valid.in0
  have hR := run_enf m tr m.sys.initial 0 hk h3
  have hvis : visB (enfL m m.sys.initial tr) = true := visB_sub (enfL_sub m tr _) h2
  rcases hr with ⟨h, -⟩ | ⟨-, h, -⟩ | ⟨-, -, hr⟩
  ·exact absurd h1 h
  ·rw [hvis] at h; cases h
  ·rw [hr] at hR
   exact ⟨hR.1, hR.2.1, enfL_len m tr _, fun h => by have := hR.2.2 h; simpa using this⟩
theorem enf_same {m : Mon} {tr outs : List ByteArray} {v n c : Int} (h : EnfIs m tr outs 0) (hr : RunIs m tr v n c) (hc : c = 0) (hv : v ≠ 2) : outs = tr := by
 rcases h with ⟨-, -, h⟩ | ⟨-, -, -, h⟩ | ⟨-, -, -, -, h⟩ | ⟨h1, h2, h3, rfl, -⟩
 ·cases h
 ·cases h
 ·cases h
 ·rcases hr with ⟨h, -⟩ | ⟨-, h, -⟩ | ⟨-, -, hr⟩
  ·exact absurd h1 h
  ·rw [h2] at h; cases h
  ·exact enf_all m tr m.sys.initial 0 h1.valid.in0 h3 (by rw [hr]; exact hc) (by rw [hr]; exact hv)
theorem enf_short {m : Mon} {tr outs : List ByteArray} {v n c : Int} (h : EnfIs m tr outs 0) (hr : RunIs m tr v n c) (hx : ¬ (c = 0 ∧ v ≠ 2)) : outs.length < tr.length := by
 rcases h with ⟨-, -, h⟩ | ⟨-, -, -, h⟩ | ⟨-, -, -, -, h⟩ | ⟨h1, h2, h3, rfl, -⟩
 ·cases h
 ·cases h
 ·cases h
 ·rcases hr with ⟨h, -⟩ | ⟨-, h, -⟩ | ⟨-, -, hr⟩
  ·exact absurd h1 h
  ·rw [h2] at h; cases h
  ·exact enf_less h1.valid.in0 h3 (by rw [hr]; exact hx)

set_option maxRecDepth 100000 in
set_option maxHeartbeats 4000000 in
theorem lawEnforced (a0 : Option Addr) (N c0 : Nat) (bs : List UInt8) (a1 : Option Addr) (N1 c1 : Nat) (bs1 : List UInt8) (w : World) (hN : N = bs.length) (hc : N ≤ 1048576 → BytesIn w.heap.size w (.slice a0 N c0) bs) (hN1 : N1 = bs1.length) (hc1 : N1 ≤ 1048576 → BytesIn w.heap.size w (.slice a1 N1 c1) bs1) (g : Glob w) :
  Calls Tryz.prog 3 #[.slice a0 N c0, .slice a1 N1 c1] w fun e w' => e = .returned (.bool true) ∧ Below w.heap.size w w' := by
 have HLG := Lib.hid (b10Long_any a0 N c0 w)
 have HLG1 := Lib.hid (b10Long_any a1 N1 c1 w)
 by_cases hlong : 1048576 < N
 ·have hd : decide (1048576 < N) = true := decide_eq_true hlong
  rw [hd] at HLG
  clear hd hN hc hN1 hc1 HLG1
  go_enter Tryz.func3, Tryz.ntmps3
  go_wp2_with fail
  refine Calls.mono HLG.out ?_
  rintro e w1 ⟨rfl, rfl⟩
  go_wp2
  go_ret
  exact ⟨rfl, Below.refl _ _⟩
 have hd : decide (1048576 < N) = false := decide_eq_false hlong
 rw [hd] at HLG
 by_cases hlong1 : 1048576 < N1
 ·have hd : decide (1048576 < N1) = true := decide_eq_true hlong1
  rw [hd] at HLG1
  clear hd hN hc hN1 hc1
  go_enter Tryz.func3, Tryz.ntmps3
  go_wp2_with fail
  refine Calls.mono HLG.out ?_
  rintro e w1 ⟨rfl, rfl⟩
  go_wp2_with fail
  refine Calls.mono HLG1.out ?_
  rintro e w1 ⟨rfl, rfl⟩
  go_wp2
  go_ret
  exact ⟨rfl, Below.refl _ _⟩
 have hd1 : decide (1048576 < N1) = false := decide_eq_false hlong1
 rw [hd1] at HLG1
 have HMO := Lib.hid (b10Monitor_any (.slice a0 N c0) bs w (hc (by omega)))
 have HC1 := Lib.hid (hc1 (by omega))
 have HG := Lib.hid g
 clear hd hd1 hN hc hN1 hc1 g
 go_enter Tryz.func3, Tryz.ntmps3
 go_wp2_with fail
 refine Calls.mono HLG.out ?_
 rintro e w1 ⟨rfl, rfl⟩
 go_wp2_with fail
 refine Calls.mono HLG1.out ?_
 rintro e w1 ⟨rfl, rfl⟩
 clear HLG HLG1
 go_wp2_with fail
 refine Calls.mono HMO.out ?_
 rintro e w2 ⟨hb2, m, lv, ev, vv, rfl, hom, h6⟩
 obtain ⟨mv, mc, rfl, -, -⟩ := owns_slice hom.1.1
 obtain ⟨me, mf, rfl, -, -⟩ := owns_slice hom.1.2
 obtain ⟨mm, mn, rfl, -, -⟩ := owns_slice hom.2
 obtain ⟨mb, hmb⟩ : ∃ mb, mb = w2.heap.size := ⟨_, rfl⟩
 obtain ⟨W3, hW3⟩ : ∃ W3, W3 = w2.alloc (.cells #[.int .i64 m.sys.states, .int .i64 m.sys.initial, .slice mv m.sys.labels.length mc, .slice me m.sys.edges.length mf, .slice mm m.vs.length mn] 30) := ⟨_, rfl⟩
 have hb3 : Below w2.heap.size w2 W3 := by rw [hW3]; exact (Below.refl _ _).alloc (Nat.le_refl _) _
 have hM : Blk W3 mb [.int .i64 m.sys.states, .int .i64 m.sys.initial, .slice mv m.sys.labels.length mc, .slice me m.sys.edges.length mf, .slice mm m.vs.length mn] 30 := by rw [hW3, hmb]; exact Blk.new _ _ _
 have hs2 : w.heap.size ≤ w2.heap.size := hb2.size
 have HB3 : Hid (Below w.heap.size w W3) := hb2.trans (hb3.mono hs2)
 have hs3 : w.heap.size ≤ W3.heap.size := HB3.out.size
 have HI3 := Lib.hid ((hom.below hb3).at)
 have HM3 := Lib.hid hM
 have HS := Lib.hid (short6 h6)
 have HS' := Lib.hid (short6' h6)
 have HG3 := Lib.hid (HG.out.below HB3.out)
 have HTR := Lib.hid (b10Trace_any w.heap.size (.slice a1 N1 c1) bs1 m.sys (.slice mv m.sys.labels.length mc) (.slice me m.sys.edges.length mf) W3 HI3.out.labels HI3.out.edges h6 (bytes_up HC1.out HB3.out))
 have HW3 := Lib.hid hW3
 have HMB := Lib.hid hmb
 have t0 := HM3.out.cell 0 rfl
 have t1 := HM3.out.cell 1 rfl
 have t2 := HM3.out.cell 2 rfl
 have t3 := HM3.out.cell 3 rfl
 clear hb2 hom h6 hb3 hM hW3 hmb HMO HG HC1
 go_upto_region 4 with fail
 rw [← HW3.out]
 try rw [← HMB.out]
 go_wp2_with fail
 refine Calls.mono HTR.out ?_
 rintro e w4 ⟨hb4, tv, tr, rfl, hot, hlen, htr6⟩
 obtain ⟨ta, tc, rfl, -, -⟩ := owns_slice hot
 have HB4 := Lib.hid (HB3.out.trans (hb4.mono hs3))
 have hs4 : w.heap.size ≤ w4.heap.size := HB4.out.size
 have HM4 := Lib.hid (HM3.out.below hb4)
 have HI4 := Lib.hid (HI3.out.below hb4)
 have HG4 := Lib.hid (HG3.out.below hb4)
 have HT4 := Lib.hid (hot.lower hs3)
 have HST := Lib.hid (short6 htr6)
 have HST' := Lib.hid (short6' htr6)
 have HEN := Lib.hid (EnforceTrace_any w.heap.size w.heap.size m (.slice mv m.sys.labels.length mc) (.slice me m.sys.edges.length mf) (.slice mm m.vs.length mn) (.slice ta tr.length tc) tr w4 HS.out HST.out (by omega) HI4.out HT4.out.at HG4.out)
 clear hb4 hot htr6 HTR t0 t1 t2 t3 HM3 HI3 HG3 HB3
 have t0 := HM4.out.cell 0 rfl
 have t1 := HM4.out.cell 1 rfl
 have t2 := HM4.out.cell 2 rfl
 have t3 := HM4.out.cell 3 rfl
 have t4 := HM4.out.cell 4 rfl
 go_wp2_with fail
 refine Calls.mono HEN.out ?_
 rintro e w5 ⟨hb5, ov, outs, c, rfl, henf, hoo⟩
 obtain ⟨oa, oc, rfl, -, -⟩ := owns_slice hoo
 have HB5 := Lib.hid (HB4.out.trans (hb5.mono hs4))
 have hs5 : w.heap.size ≤ w5.heap.size := HB5.out.size
 have HM5 := Lib.hid (HM4.out.below hb5)
 have HI5 := Lib.hid (HI4.out.below hb5)
 have HG5 := Lib.hid (HG4.out.below hb5)
 have HT5 := Lib.hid (OwnStrs.below HT4.out hb5)
 have HO5 := Lib.hid (hoo.lower hs4)
 have HEF := Lib.hid henf
 clear hb5 hoo henf HEN t0 t1 t2 t3 t4 HM4 HI4 HG4 HT4
 have t0 := HM5.out.cell 0 rfl
 have t1 := HM5.out.cell 1 rfl
 have t2 := HM5.out.cell 2 rfl
 have t3 := HM5.out.cell 3 rfl
 have t4 := HM5.out.cell 4 rfl
 by_cases hc0 : c = 0
 ·subst hc0
  have hsub : ∀ i (h : i < outs.length), outs[i].size ≤ 1048576 := by
   have hs : outs.Sublist tr := by
    rcases HEF.out with ⟨-, rfl, -⟩ | ⟨-, -, rfl, -⟩ | ⟨-, -, -, rfl, -⟩ | ⟨-, -, -, rfl, -⟩
    ·exact List.nil_sublist _
    ·exact List.nil_sublist _
    ·exact List.nil_sublist _
    ·exact enfL_sub m tr _
   intro i hi
   obtain ⟨j, hj, hje⟩ := List.mem_iff_getElem.1 (hs.subset (List.getElem_mem hi))
   rw [← hje]
   exact HST.out j hj
  have HRU := Lib.hid (RunMonitor_any w.heap.size w.heap.size m (.slice mv m.sys.labels.length mc) (.slice me m.sys.edges.length mf) (.slice mm m.vs.length mn) (.slice oa outs.length oc) outs w5 HS.out hsub HI5.out HO5.out.at HG5.out)
  clear hsub
  go_wp2_with fail
  refine Calls.mono HRU.out ?_
  rintro e w6 ⟨hb6, v, n, c6, rfl, hru⟩
  obtain ⟨rfl, hv2, hle, hvn⟩ := enf_run HEF.out hru
  have HB6 := Lib.hid (HB5.out.trans (hb6.mono hs5))
  have hs6 : w.heap.size ≤ w6.heap.size := HB6.out.size
  have HM6 := Lib.hid (HM5.out.below hb6)
  have HI6 := Lib.hid (HI5.out.below hb6)
  have HG6 := Lib.hid (HG5.out.below hb6)
  have HT6 := Lib.hid (OwnStrs.below HT5.out hb6)
  have HO6 := Lib.hid (OwnStrs.below HO5.out hb6)
  clear hb6 hru HRU t0 t1 t2 t3 t4 HM5 HI5 HG5 HT5 HO5
  have t0 := HM6.out.cell 0 rfl
  have t1 := HM6.out.cell 1 rfl
  have t2 := HM6.out.cell 2 rfl
  have t3 := HM6.out.cell 3 rfl
  have t4 := HM6.out.cell 4 rfl
  have HR2 := Lib.hid (RunMonitor_any w.heap.size w.heap.size m (.slice mv m.sys.labels.length mc) (.slice me m.sys.edges.length mf) (.slice mm m.vs.length mn) (.slice ta tr.length tc) tr w6 HS.out HST.out HI6.out HT6.out.at HG6.out)
  have hv2b : (v == 2) = false := beq_eq_false_iff_ne.2 hv2
  have hle2 : ¬ (tr.length : Int) < (outs.length : Int) := by omega
  have hle3 : decide ((outs.length : Int) > (tr.length : Int)) = false := decide_eq_false (by omega)
  go_upto_region 12 with fail
  go_cut [73] from 14 (fun v73 wx => v73 = .bool false ∧ wx = w6)
  case first =>
   by_cases hv0 : v = 0
   ·have hn := hvn hv0
    subst hv0
    subst hn
    have hnb : ((outs.length : Int) != (outs.length : Int)) = false := by simp
    go_wp2
    go_meet
    case rel => exact ⟨rfl, rfl⟩
   ·have hvb : (v == 0) = false := beq_eq_false_iff_ne.2 hv0
    go_wp2
    go_meet
    case rel => exact ⟨rfl, rfl⟩
  obtain ⟨rfl, rfl⟩ := hcut
  go_wp2_with fail
  refine Calls.mono HR2.out ?_
  rintro e w7 ⟨hb7, v2, n2, c2, rfl, hru2⟩
  have HB7 := Lib.hid (HB6.out.trans (hb7.mono hs6))
  have HT7 := Lib.hid (OwnStrs.below HT6.out hb7)
  have HO7 := Lib.hid (OwnStrs.below HO6.out hb7)
  have HRU := Lib.hid hru2
  clear hb7 hru2 HR2 t0 t1 t2 t3 t4
  by_cases hx : c2 = 0 ∧ v2 ≠ 2
  ·obtain ⟨rfl, hx2⟩ := hx
   have hxb : (v2 != 2) = true := bne_iff_ne.2 hx2
   have hsame := enf_same HEF.out HRU.out rfl hx2
   have HTX := Lib.hid (b10Texts_any w.heap.size w.heap.size (.slice oa outs.length oc) (.slice ta tr.length tc) outs tr w7 HO7.out.at HT7.out.at)
   have hde : decide (outs = tr) = true := decide_eq_true hsame
   rw [hde] at HTX
   clear hde hsame
   go_wp2_with fail
   refine Calls.mono HTX.out ?_
   rintro e w8 ⟨rfl, hb8⟩
   have HB8 := Lib.hid (HB7.out.trans (hb8.mono HB7.out.size))
   clear hb8 HTX
   go_wp2
   go_ret
   exact ⟨rfl, HB8.out⟩
  ·have hlt := enf_short HEF.out HRU.out hx
   have hlt2 : (outs.length : Int) < (tr.length : Int) := by omega
   by_cases hc2 : c2 = 0
   ·subst hc2
    have hv22 : v2 = 2 := by
     by_cases h : v2 = 2
     ·exact h
     ·exact absurd ⟨rfl, h⟩ hx
    subst hv22
    have hbb : ((2 : Int) != 2) = false := by simp
    go_wp2
    go_ret
    exact ⟨rfl, HB7.out⟩
   ·have hcb : (c2 == 0) = false := beq_eq_false_iff_ne.2 hc2
    go_wp2
    go_ret
    exact ⟨rfl, HB7.out⟩
 ·obtain ⟨rfl, hen⟩ := HEF.out.none hc0
  have HSE := Lib.hid (specEnforce_any w.heap.size w.heap.size m (.slice mv m.sys.labels.length mc) (.slice me m.sys.edges.length mf) (.slice mm m.vs.length mn) (.slice ta tr.length tc) tr c w5 HS'.out HST'.out HI5.out HT5.out.at hen hc0)
  clear hen
  go_wp2_with fail
  refine Calls.mono HSE.out ?_
  rintro e w6 ⟨rfl, hb6⟩
  have HB6 := Lib.hid (HB5.out.trans (hb6.mono hs5))
  clear hb6 HSE
  go_wp2
  go_ret
  exact ⟨ret_bool (by simp), HB6.out⟩

end Go.Proofs.YtmeibnhhlknbfaaGreatDoor
