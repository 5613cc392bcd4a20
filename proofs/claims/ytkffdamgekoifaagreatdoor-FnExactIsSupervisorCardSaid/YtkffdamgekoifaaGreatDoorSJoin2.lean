/-
  For all arguments the law FnExactIsSupervisor answers true: the walk that joins both sides.
-/
import Derived.Test.YtkffdamgekoifaaGreatDoorSJoin1
import Derived.Deep.RegionHeld3
namespace Go.Proofs.YtkffdamgekoifaaGreatDoor
open Go Go.RowKit

theorem lbox_cells {n0 : Nat} {p : Plant} {r s : Lts} {lv ev mv nv lr er ls es : Value} {w : World} (h : LBox n0 [.int .i64 p.sys.states, .int .i64 p.sys.initial, lv, ev, mv, nv] [.int .i64 r.states, .int .i64 r.initial, lr, er] [.int .i64 s.states, .int .i64 s.initial, ls, es] w) :
    w.cell? ⟨n0, 0, none⟩ = some (.int .i64 p.sys.states) ∧ w.cell? ⟨n0, 1, none⟩ = some (.int .i64 p.sys.initial) ∧ w.cell? ⟨n0, 2, none⟩ = some (lv) ∧ w.cell? ⟨n0, 3, none⟩ = some (ev) ∧ w.cell? ⟨n0, 4, none⟩ = some (mv) ∧ w.cell? ⟨n0, 5, none⟩ = some (nv) ∧ w.cell? ⟨n0 + 1, 0, none⟩ = some (.int .i64 r.states) ∧ w.cell? ⟨n0 + 1, 1, none⟩ = some (.int .i64 r.initial) ∧ w.cell? ⟨n0 + 1, 2, none⟩ = some (lr) ∧ w.cell? ⟨n0 + 1, 3, none⟩ = some (er) ∧ w.cell? ⟨n0 + 1 + 1, 0, none⟩ = some (.int .i64 s.states) ∧ w.cell? ⟨n0 + 1 + 1, 1, none⟩ = some (.int .i64 s.initial) ∧ w.cell? ⟨n0 + 1 + 1, 2, none⟩ = some (ls) ∧ w.cell? ⟨n0 + 1 + 1, 3, none⟩ = some (es) :=
  ⟨h.one.cell 0 rfl, h.one.cell 1 rfl, h.one.cell 2 rfl, h.one.cell 3 rfl, h.one.cell 4 rfl, h.one.cell 5 rfl, h.two.cell 0 rfl, h.two.cell 1 rfl, h.two.cell 2 rfl, h.two.cell 3 rfl, h.three.cell 0 rfl, h.three.cell 1 rfl, h.three.cell 2 rfl, h.three.cell 3 rfl⟩

set_option maxRecDepth 100000 in
set_option maxHeartbeats 4000000 in
theorem law_true (lo : Nat) (p : Plant) (r s : Lts) (lv ev mv nv lr er ls es : Value) (w : World) (hp : PlantIn lo w lv ev mv nv p) (hr : LtsIn lo w lr er r) (hs : LtsIn lo w ls es s)
    (k1 : StrsOk p.sys.labels) (k2 : StrsOk p.names) (k3 : StrsOk r.labels) (k4 : StrsOk s.labels) (g : Glob w) :
    Calls Tryz.prog 3 #[.agg #[.int .i64 p.sys.states, .int .i64 p.sys.initial, lv, ev, mv, nv], .agg #[.int .i64 r.states, .int .i64 r.initial, lr, er], .agg #[.int .i64 s.states, .int .i64 s.initial, ls, es]] w fun e w' => e = .returned (.bool true) ∧ Below w.heap.size w w' := by
  obtain ⟨n0, hn0⟩ : ∃ n0, n0 = w.heap.size := ⟨_, rfl⟩
  obtain ⟨W1, hW1⟩ : ∃ W1, W1 = ((w.alloc (.cells #[.int .i64 p.sys.states, .int .i64 p.sys.initial, lv, ev, mv, nv] 28)).alloc (.cells #[.int .i64 r.states, .int .i64 r.initial, lr, er] 25)).alloc (.cells #[.int .i64 s.states, .int .i64 s.initial, ls, es] 25) := ⟨_, rfl⟩
  have hB1 : Below w.heap.size w W1 := by rw [hW1]; exact (((Below.refl _ _).alloc (Nat.le_refl _) _).alloc (by simp) _).alloc (by simp; omega) _
  have hBX : LBox n0 [.int .i64 p.sys.states, .int .i64 p.sys.initial, lv, ev, mv, nv] [.int .i64 r.states, .int .i64 r.initial, lr, er] [.int .i64 s.states, .int .i64 s.initial, ls, es] W1 := by
    rw [hW1, hn0]
    refine ⟨((Blk.new w [.int .i64 p.sys.states, .int .i64 p.sys.initial, lv, ev, mv, nv] _).alloc _).alloc _, ?_, ?_⟩
    · have := Blk.new (w.alloc (.cells #[.int .i64 p.sys.states, .int .i64 p.sys.initial, lv, ev, mv, nv] 28)) [.int .i64 r.states, .int .i64 r.initial, lr, er] 25
      rw [World.size_alloc] at this
      exact this.alloc _
    · have := Blk.new ((w.alloc (.cells #[.int .i64 p.sys.states, .int .i64 p.sys.initial, lv, ev, mv, nv] 28)).alloc (.cells #[.int .i64 r.states, .int .i64 r.initial, lr, er] 25)) [.int .i64 s.states, .int .i64 s.initial, ls, es] 25
      rw [World.size_alloc, World.size_alloc] at this
      exact this
  have HP := Lib.hid (hp.below hB1)
  have HR := Lib.hid (hr.below hB1)
  have HS := Lib.hid (hs.below hB1)
  have HG := Lib.hid (g.below hB1)
  have HB1 := Lib.hid hB1
  have HBX := Lib.hid hBX
  have HW1 := Lib.hid hW1
  have HN0 := Lib.hid hn0
  have K1 := Lib.hid k1
  have K2 := Lib.hid k2
  have K3 := Lib.hid k3
  have K4 := Lib.hid k4
  have HC1 := Lib.hid (szPlant_any lo p lv ev mv nv 1048576 W1 (by decide) (by decide) k1 k2 (hp.below hB1))
  clear hp hr hs g hB1 hBX hW1 hn0 k1 k2 k3 k4
  by_cases c1 : szP p 1048576 < 0
  · go_enter Tryz.func3, Tryz.ntmps3
    go_wp2_with fail
    rw [← HW1.out]
    refine Calls.mono HC1.out ?_
    rintro e w2 ⟨rfl, hb2⟩
    have HB2 := Lib.hid (HB1.out.trans (hb2.mono HB1.out.size))
    clear hb2
    go_wp2_with fail
    go_ret
    exact ⟨rfl, HB2.out⟩
  have hfit := szP_fit (p := p) (left := 1048576) (by decide) (by omega)
  obtain ⟨L, hL⟩ : ∃ L, L = szP p 1048576 := ⟨_, rfl⟩
  rw [← hL] at c1 hfit HC1
  have hL0 : 0 ≤ L := by omega
  have hL1 : L ≤ 1048576 := hfit.2.2.2.2.2.2
  have HC2 := Lib.hid (fun w' (hb : Below W1.heap.size W1 w') => szLts_any (.agg #[.int .i64 r.states, .int .i64 r.initial, lr, er]) lo r L w' hL0 hL1 K3.out ⟨lr, er, rfl, (HR.out.below hb).labels, (HR.out.below hb).edges⟩)
  by_cases c2 : szL r L < 0
  · clear hL hfit
    go_enter Tryz.func3, Tryz.ntmps3
    go_wp2_with fail
    rw [← HW1.out]
    refine Calls.mono HC1.out ?_
    rintro e w2 ⟨rfl, hb2⟩
    have HB2 := Lib.hid hb2
    obtain ⟨y0, y1, y2, y3⟩ := blk4 (HBX.out.below hb2).two
    rw [← HN0.out]
    clear hb2
    go_wp2_with fail
    refine Calls.mono (HC2.out _ HB2.out) ?_
    rintro e w3 ⟨rfl, hb3⟩
    have HB3 := Lib.hid (HB1.out.trans ((HB2.out.trans (hb3.mono HB2.out.size)).mono HB1.out.size))
    clear hb3
    go_wp2_with fail
    go_ret
    exact ⟨rfl, HB3.out⟩
  have hfit2 := szL_fit (t := r) (left := L) hL0 (by omega)
  obtain ⟨M, hM⟩ : ∃ M, M = szL r L := ⟨_, rfl⟩
  rw [← hM] at c2 hfit2 HC2
  have hM0 : 0 ≤ M := by omega
  have hM1 : M ≤ 1048576 := by omega
  have HC3 := Lib.hid (fun w' (hb : Below W1.heap.size W1 w') => szLts_any (.agg #[.int .i64 s.states, .int .i64 s.initial, ls, es]) lo s M w' hM0 hM1 K4.out ⟨ls, es, rfl, (HS.out.below hb).labels, (HS.out.below hb).edges⟩)
  by_cases c3 : szL s M < 0
  · clear hL hfit hM hfit2
    go_enter Tryz.func3, Tryz.ntmps3
    go_wp2_with fail
    rw [← HW1.out]
    refine Calls.mono HC1.out ?_
    rintro e w2 ⟨rfl, hb2⟩
    have HB2 := Lib.hid hb2
    obtain ⟨y0, y1, y2, y3⟩ := blk4 (HBX.out.below hb2).two
    rw [← HN0.out]
    clear hb2
    go_wp2_with fail
    refine Calls.mono (HC2.out _ HB2.out) ?_
    rintro e w3 ⟨rfl, hb3⟩
    have HB3 := Lib.hid (HB2.out.trans (hb3.mono HB2.out.size))
    clear hb3 y0 y1 y2 y3
    obtain ⟨y0, y1, y2, y3⟩ := blk4 (HBX.out.below HB3.out).three
    go_wp2_with fail
    refine Calls.mono (HC3.out _ HB3.out) ?_
    rintro e w4 ⟨rfl, hb4⟩
    have HB4 := Lib.hid (HB1.out.trans ((HB3.out.trans (hb4.mono HB3.out.size)).mono HB1.out.size))
    clear hb4
    go_wp2_with fail
    go_ret
    exact ⟨rfl, HB4.out⟩
  have hfit3 := szL_fit (t := s) (left := M) hM0 (by omega)
  have J1 : Hid (Short20 p.sys.labels) := fun i hi => by have := hfit.2.2.1 _ (List.getElem_mem hi); omega
  have J2 : Hid (Short20 r.labels) := fun i hi => by have := hfit2.2.2.1 _ (List.getElem_mem hi); omega
  have J3 : Hid (Short20 s.labels) := fun i hi => by have := hfit3.2.2.1 _ (List.getElem_mem hi); omega
  have J4 : Hid (Short20 p.names) := fun i hi => by have := hfit.2.2.2.2.2.1 _ (List.getElem_mem hi); omega
  have I1 : Hid (Short p.sys.labels) := fun i hi => Nat.le_trans (J1.out i hi) (by decide)
  have I2 : Hid (Short r.labels) := fun i hi => Nat.le_trans (J2.out i hi) (by decide)
  have I3 : Hid (Short s.labels) := fun i hi => Nat.le_trans (J3.out i hi) (by decide)
  have HTP : Hid (∀ w', Below W1.heap.size W1 w' → Calls Tryz.prog 7 #[.agg #[.int .i64 p.sys.states, .int .i64 p.sys.initial, lv, ev, mv, nv]] w' (MadePlant p w')) := fun w' hb => toPlant_any lo p _ _ _ _ w' (by omega) (by omega) (by omega) (by omega) (HP.out.below hb)
  have HTR : Hid (∀ w', Below W1.heap.size W1 w' → Calls Tryz.prog 8 #[.agg #[.int .i64 r.states, .int .i64 r.initial, lr, er]] w' (MadeSys r w')) := fun w' hb => toSys_any lo r _ _ w' (by omega) (by omega) (HR.out.below hb)
  have HTS : Hid (∀ w', Below W1.heap.size W1 w' → Calls Tryz.prog 8 #[.agg #[.int .i64 s.states, .int .i64 s.initial, ls, es]] w' (MadeSys s w')) := fun w' hb => toSys_any lo s _ _ w' (by omega) (by omega) (HS.out.below hb)
  have HSPEC : Hid (∀ (lv' ev' mv' nv' lr' er' ls' es' : Value) (w' : World), PlantIn 0 w' lv' ev' mv' nv' p → LtsIn 0 w' lr' er' r → LtsIn 0 w' ls' es' s → Calls Tryz.prog 6 #[.agg #[.int .i64 p.sys.states, .int .i64 p.sys.initial, lv', ev', mv', nv'], .agg #[.int .i64 r.states, .int .i64 r.initial, lr', er'], .agg #[.int .i64 s.states, .int .i64 s.initial, ls', es']] w' fun e w'' => e = .returned (.bool (supB p r s)) ∧ Below w'.heap.size w' w'') :=
    fun _ _ _ _ _ _ _ _ w' h1 h2 h3 => supB_of (specIsSupervisor_any 0 p r s _ _ _ _ _ _ _ _ w' I1.out I2.out I3.out h1 h2 h3)
  have HIMPL : Hid (∀ (lv' ev' mv' nv' lr' er' ls' es' : Value) (w' : World), PlantIn 0 w' lv' ev' mv' nv' p → LtsIn 0 w' lr' er' r → LtsIn 0 w' ls' es' s → Glob w' → Calls Tryz.prog 9 #[.agg #[.int .i64 p.sys.states, .int .i64 p.sys.initial, lv', ev', mv', nv'], .agg #[.int .i64 r.states, .int .i64 r.initial, lr', er'], .agg #[.int .i64 s.states, .int .i64 s.initial, ls', es']] w' fun e w'' => e = .returned (.bool (supB p r s)) ∧ Below w'.heap.size w' w'') :=
    fun _ _ _ _ _ _ _ _ w' h1 h2 h3 hg => supB_of (implIsSupervisor_any 0 p r s _ _ _ _ _ _ _ _ w' J1.out J2.out J3.out J4.out h1 h2 h3 hg)
  obtain ⟨sb, hsb⟩ : ∃ sb, sb = supB p r s := ⟨_, rfl⟩
  rw [← hsb] at HSPEC HIMPL
  obtain ⟨Q, hQ⟩ : ∃ Q, Q = szL s M := ⟨_, rfl⟩
  rw [← hQ] at c3 HC3
  clear hfit hfit2 hfit3 hL hM hQ hsb hL1 hM1
  go_enter Tryz.func3, Tryz.ntmps3
  go_wp2_with fail
  rw [← HW1.out]
  refine Calls.mono HC1.out ?_
  rintro e w2 ⟨rfl, hb2⟩
  have HB2 := Lib.hid hb2
  obtain ⟨y0, y1, y2, y3⟩ := blk4 (HBX.out.below hb2).two
  rw [← HN0.out]
  clear hb2
  go_wp2_with fail
  refine Calls.mono (HC2.out _ HB2.out) ?_
  rintro e w3 ⟨rfl, hb3⟩
  have HB3 := Lib.hid (HB2.out.trans (hb3.mono HB2.out.size))
  clear hb3 y0 y1 y2 y3
  obtain ⟨y0, y1, y2, y3⟩ := blk4 (HBX.out.below HB3.out).three
  go_wp2_with fail
  refine Calls.mono (HC3.out _ HB3.out) ?_
  rintro e w4 ⟨rfl, hb4⟩
  have HB4 := Lib.hid (HB3.out.trans (hb4.mono HB3.out.size))
  clear hb4 y0 y1 y2 y3 HC1 HC2 HC3
  go_wp2_with fail
  have hD : Below W1.heap.size W1 w4.drew := HB4.out.drew
  have BD := Lib.hid (HBX.out.below hD)
  have BE := Lib.hid (HBX.out.below HB4.out)
  go_region_held3 (fun w' => w'.cell? ⟨n0, 0, none⟩ = some (.int .i64 p.sys.states) ∧ w'.cell? ⟨n0, 1, none⟩ = some (.int .i64 p.sys.initial) ∧ w'.cell? ⟨n0, 2, none⟩ = some (lv) ∧ w'.cell? ⟨n0, 3, none⟩ = some (ev) ∧ w'.cell? ⟨n0, 4, none⟩ = some (mv) ∧ w'.cell? ⟨n0, 5, none⟩ = some (nv) ∧ w'.cell? ⟨n0 + 1, 0, none⟩ = some (.int .i64 r.states) ∧ w'.cell? ⟨n0 + 1, 1, none⟩ = some (.int .i64 r.initial) ∧ w'.cell? ⟨n0 + 1, 2, none⟩ = some (lr) ∧ w'.cell? ⟨n0 + 1, 3, none⟩ = some (er) ∧ w'.cell? ⟨n0 + 1 + 1, 0, none⟩ = some (.int .i64 s.states) ∧ w'.cell? ⟨n0 + 1 + 1, 1, none⟩ = some (.int .i64 s.initial) ∧ w'.cell? ⟨n0 + 1 + 1, 2, none⟩ = some (ls) ∧ w'.cell? ⟨n0 + 1 + 1, 3, none⟩ = some (es))
    (first
      | exact lbox_cells BD.out
      | exact lbox_cells BE.out
      | exact lbox_cells B5.out
      | exact lbox_cells B6.out
      | exact lbox_cells B7.out
      | exact lbox_cells B8.out
      | go_keep)
    (first
      | (go_at_call 7; refine Calls.mono (HTP.out _ hD) ?_; rintro e w5 ⟨lv5, ev5, mv5, nv5, rfl, hb5, hp5⟩; have hD5 : Below W1.heap.size W1 w5 := hD.trans (hb5.mono hD.size); have B5 := Lib.hid (HBX.out.below hD5))
      | (go_at_call_of 8 (Value.agg #[Value.int .i64 r.states, Value.int .i64 r.initial, lr, er]); refine Calls.mono (HTR.out _ hD5) ?_; rintro e w6 ⟨lr6, er6, rfl, hb6, hr6⟩; have hD6 : Below W1.heap.size W1 w6 := hD5.trans (hb6.mono hD5.size); have B6 := Lib.hid (HBX.out.below hD6))
      | (go_at_call_of 8 (Value.agg #[Value.int .i64 s.states, Value.int .i64 s.initial, ls, es]); refine Calls.mono (HTS.out _ hD6) ?_; rintro e w7 ⟨ls7, es7, rfl, hb7, hs7⟩; have hD7 : Below W1.heap.size W1 w7 := hD6.trans (hb7.mono hD6.size); have B7 := Lib.hid (HBX.out.below hD7))
      | (go_at_call 6; refine Calls.mono (HSPEC.out _ _ _ _ _ _ _ _ _ ((hp5.below hb6).below hb7) (hr6.below hb7) hs7) ?_; rintro e w8 ⟨rfl, hb8⟩; have hD8 : Below W1.heap.size W1 w8 := hD7.trans (hb8.mono hD7.size); have B8 := Lib.hid (HBX.out.below hD8)))
  have D8 := Lib.hid hD8
  clear hD BD BE B5 B6 B7 hD5 hD6 hD7 hD8 hb5 hb6 hb7 hb8 hp5 hr6 hs7 HSPEC
  obtain ⟨x0, x1, x2, x3, x4, x5⟩ := blk6 B8.out.one
  go_wp2_with fail
  refine Calls.mono (HTP.out _ D8.out) ?_
  rintro e w12 ⟨lv12, ev12, mv12, nv12, rfl, hb12, hp12⟩
  have HP12 := Lib.hid hp12
  obtain ⟨⟨a12, c12, rfl, -⟩, ⟨ae12, ce12, rfl, -⟩, ⟨am12, cm12, rfl, -⟩, ⟨an12, cn12, rfl, -⟩⟩ := hp12
  have D12 := Lib.hid (D8.out.trans (hb12.mono D8.out.size))
  obtain ⟨w13, hw13⟩ : ∃ w13, w13 = w12.alloc (.cells #[(Value.int .i64 p.sys.states), (Value.int .i64 p.sys.initial), (Value.slice a12 p.sys.labels.length c12), (Value.slice ae12 p.sys.edges.length ce12), (Value.slice am12 p.marks.length cm12), (Value.slice an12 p.names.length cn12)] 36) := ⟨_, rfl⟩
  have hb13 : Below w12.heap.size w12 w13 := by rw [hw13]; exact box_below _ _ _
  obtain ⟨k9, hk9⟩ : ∃ k9, k9 = w12.heap.size := ⟨_, rfl⟩
  have X13 : Hid (Blk w13 k9 [(Value.int .i64 p.sys.states), (Value.int .i64 p.sys.initial), (Value.slice a12 p.sys.labels.length c12), (Value.slice ae12 p.sys.edges.length ce12), (Value.slice am12 p.marks.length cm12), (Value.slice an12 p.names.length cn12)] 36) := by rw [hw13, hk9]; exact Blk.new _ _ _
  have P13 := Lib.hid (HP12.out.below hb13)
  have D13 := Lib.hid (D12.out.trans (hb13.mono D12.out.size))
  have HW13 := Lib.hid hw13
  have HK9 := Lib.hid hk9
  have y12 := D12.out.size
  have hlt12 := (HBX.out.below D12.out).two.lt
  clear x0 x1 x2 x3 x4 x5 hb12 hw13 hb13 hk9
  obtain ⟨x0, x1, x2, x3⟩ := blk4 (HBX.out.below D12.out).two
  go_wp2_with fail
  rw [← HW13.out]
  refine Calls.mono (HTR.out _ D13.out) ?_
  rintro e w14 ⟨lr14, er14, rfl, hb14, hr14⟩
  have HR14 := Lib.hid hr14
  obtain ⟨⟨a14, c14, rfl, -⟩, ⟨ae14, ce14, rfl, -⟩⟩ := hr14
  have D14 := Lib.hid (D13.out.trans (hb14.mono D13.out.size))
  have X14 := Lib.hid (X13.out.below hb14)
  have P14 := Lib.hid (P13.out.below hb14)
  obtain ⟨w15, hw15⟩ : ∃ w15, w15 = w14.alloc (.cells #[(Value.int .i64 r.states), (Value.int .i64 r.initial), (Value.slice a14 r.labels.length c14), (Value.slice ae14 r.edges.length ce14)] 34) := ⟨_, rfl⟩
  have hb15 : Below w14.heap.size w14 w15 := by rw [hw15]; exact box_below _ _ _
  obtain ⟨k10, hk10⟩ : ∃ k10, k10 = w14.heap.size := ⟨_, rfl⟩
  have Y15 : Hid (Blk w15 k10 [(Value.int .i64 r.states), (Value.int .i64 r.initial), (Value.slice a14 r.labels.length c14), (Value.slice ae14 r.edges.length ce14)] 34) := by rw [hw15, hk10]; exact Blk.new _ _ _
  have X15 := Lib.hid (X14.out.below hb15)
  have P15 := Lib.hid (P14.out.below hb15)
  have R15 := Lib.hid (HR14.out.below hb15)
  have D15 := Lib.hid (D14.out.trans (hb15.mono D14.out.size))
  have HW15 := Lib.hid hw15
  have HK10 := Lib.hid hk10
  have hlt14 := (HBX.out.below D14.out).three.lt
  clear x0 x1 x2 x3 hb14 hw15 hb15 hk10 hlt12 y12
  obtain ⟨x0, x1, x2, x3⟩ := blk4 (HBX.out.below D14.out).three
  rw [← HK9.out]
  go_wp2_with fail
  rw [← HW15.out]
  refine Calls.mono (HTS.out _ D15.out) ?_
  rintro e w16 ⟨ls16, es16, rfl, hb16, hs16⟩
  have HS16 := Lib.hid hs16
  obtain ⟨⟨a16, c16, rfl, -⟩, ⟨ae16, ce16, rfl, -⟩⟩ := hs16
  have D16 := Lib.hid (D15.out.trans (hb16.mono D15.out.size))
  obtain ⟨w17, hw17⟩ : ∃ w17, w17 = w16.alloc (.cells #[(Value.int .i64 s.states), (Value.int .i64 s.initial), (Value.slice a16 s.labels.length c16), (Value.slice ae16 s.edges.length ce16)] 34) := ⟨_, rfl⟩
  have hb17 : Below w16.heap.size w16 w17 := by rw [hw17]; exact box_below _ _ _
  obtain ⟨k11, hk11⟩ : ∃ k11, k11 = w16.heap.size := ⟨_, rfl⟩
  have X16 := Lib.hid (X15.out.below hb16)
  have Y16 := Lib.hid (Y15.out.below hb16)
  have Z17 : Hid (Blk w17 k11 [(Value.int .i64 s.states), (Value.int .i64 s.initial), (Value.slice a16 s.labels.length c16), (Value.slice ae16 s.edges.length ce16)] 34) := by rw [hw17, hk11]; exact Blk.new _ _ _
  have X17 := Lib.hid (X16.out.below hb17)
  have Y17 := Lib.hid (Y16.out.below hb17)
  have P17 := Lib.hid ((P15.out.below hb16).below hb17)
  have R17 := Lib.hid ((R15.out.below hb16).below hb17)
  have S17 := Lib.hid (HS16.out.below hb17)
  have D17 := Lib.hid (D16.out.trans (hb17.mono D16.out.size))
  have HW17 := Lib.hid hw17
  have HK11 := Lib.hid hk11
  have hx16 := X16.out.lt
  have hy16 := Y16.out.lt
  clear x0 x1 x2 x3 hb16 hw17 hb17 hk11 hlt14
  obtain ⟨x0, x1, x2, x3, x4, x5⟩ := blk6 X16.out
  obtain ⟨y0, y1, y2, y3⟩ := blk4 Y16.out
  rw [← HK10.out]
  go_wp2_with fail
  rw [← HW17.out]
  refine Calls.mono (HIMPL.out _ _ _ _ _ _ _ _ _ P17.out R17.out S17.out (HG.out.below D17.out)) ?_
  rintro e w18 ⟨rfl, hb18⟩
  have D18 := Lib.hid (D17.out.trans (hb18.mono D17.out.size))
  have X18 := Lib.hid (X17.out.below hb18)
  have Y18 := Lib.hid (Y17.out.below hb18)
  have Z18 := Lib.hid (Z17.out.below hb18)
  have P18 := Lib.hid (P17.out.below hb18)
  have R18 := Lib.hid (R17.out.below hb18)
  have S18 := Lib.hid (S17.out.below hb18)
  clear x0 x1 x2 x3 x4 x5 y0 y1 y2 y3 hb18 hx16 hy16 HIMPL
  rw [← HK11.out]
  go_wp2_with fail
  have hr18 : Below w18.heap.size w18 w18.drew := (Below.refl _ _).drew
  have GDH18 : Hid (w18.drew.cell? ⟨k9, 0, none⟩ = some ((Value.int .i64 p.sys.states)) ∧ w18.drew.cell? ⟨k9, 1, none⟩ = some ((Value.int .i64 p.sys.initial)) ∧ w18.drew.cell? ⟨k9, 2, none⟩ = some ((Value.slice a12 p.sys.labels.length c12)) ∧ w18.drew.cell? ⟨k9, 3, none⟩ = some ((Value.slice ae12 p.sys.edges.length ce12)) ∧ w18.drew.cell? ⟨k9, 4, none⟩ = some ((Value.slice am12 p.marks.length cm12)) ∧ w18.drew.cell? ⟨k9, 5, none⟩ = some ((Value.slice an12 p.names.length cn12)) ∧ w18.drew.cell? ⟨n0, 0, none⟩ = some ((Value.int .i64 p.sys.states)) ∧ w18.drew.cell? ⟨n0, 1, none⟩ = some ((Value.int .i64 p.sys.initial)) ∧ w18.drew.cell? ⟨n0, 2, none⟩ = some (lv) ∧ w18.drew.cell? ⟨n0, 3, none⟩ = some (ev) ∧ w18.drew.cell? ⟨n0, 4, none⟩ = some (mv) ∧ w18.drew.cell? ⟨n0, 5, none⟩ = some (nv)) := ⟨(X18.out.below hr18).cell 0 rfl, (X18.out.below hr18).cell 1 rfl, (X18.out.below hr18).cell 2 rfl, (X18.out.below hr18).cell 3 rfl, (X18.out.below hr18).cell 4 rfl, (X18.out.below hr18).cell 5 rfl, ((HBX.out.below D18.out).below hr18).one.cell 0 rfl, ((HBX.out.below D18.out).below hr18).one.cell 1 rfl, ((HBX.out.below D18.out).below hr18).one.cell 2 rfl, ((HBX.out.below D18.out).below hr18).one.cell 3 rfl, ((HBX.out.below D18.out).below hr18).one.cell 4 rfl, ((HBX.out.below D18.out).below hr18).one.cell 5 rfl⟩
  have GEH18 : Hid (w18.cell? ⟨k9, 0, none⟩ = some ((Value.int .i64 p.sys.states)) ∧ w18.cell? ⟨k9, 1, none⟩ = some ((Value.int .i64 p.sys.initial)) ∧ w18.cell? ⟨k9, 2, none⟩ = some ((Value.slice a12 p.sys.labels.length c12)) ∧ w18.cell? ⟨k9, 3, none⟩ = some ((Value.slice ae12 p.sys.edges.length ce12)) ∧ w18.cell? ⟨k9, 4, none⟩ = some ((Value.slice am12 p.marks.length cm12)) ∧ w18.cell? ⟨k9, 5, none⟩ = some ((Value.slice an12 p.names.length cn12)) ∧ w18.cell? ⟨n0, 0, none⟩ = some ((Value.int .i64 p.sys.states)) ∧ w18.cell? ⟨n0, 1, none⟩ = some ((Value.int .i64 p.sys.initial)) ∧ w18.cell? ⟨n0, 2, none⟩ = some (lv) ∧ w18.cell? ⟨n0, 3, none⟩ = some (ev) ∧ w18.cell? ⟨n0, 4, none⟩ = some (mv) ∧ w18.cell? ⟨n0, 5, none⟩ = some (nv)) := ⟨(X18.out.below (Below.refl _ _)).cell 0 rfl, (X18.out.below (Below.refl _ _)).cell 1 rfl, (X18.out.below (Below.refl _ _)).cell 2 rfl, (X18.out.below (Below.refl _ _)).cell 3 rfl, (X18.out.below (Below.refl _ _)).cell 4 rfl, (X18.out.below (Below.refl _ _)).cell 5 rfl, ((HBX.out.below D18.out).below (Below.refl _ _)).one.cell 0 rfl, ((HBX.out.below D18.out).below (Below.refl _ _)).one.cell 1 rfl, ((HBX.out.below D18.out).below (Below.refl _ _)).one.cell 2 rfl, ((HBX.out.below D18.out).below (Below.refl _ _)).one.cell 3 rfl, ((HBX.out.below D18.out).below (Below.refl _ _)).one.cell 4 rfl, ((HBX.out.below D18.out).below (Below.refl _ _)).one.cell 5 rfl⟩
  have hD18 : Below W1.heap.size W1 w18.drew := D18.out.drew
  go_region_held3 (fun w' => w'.cell? ⟨k9, 0, none⟩ = some ((Value.int .i64 p.sys.states)) ∧ w'.cell? ⟨k9, 1, none⟩ = some ((Value.int .i64 p.sys.initial)) ∧ w'.cell? ⟨k9, 2, none⟩ = some ((Value.slice a12 p.sys.labels.length c12)) ∧ w'.cell? ⟨k9, 3, none⟩ = some ((Value.slice ae12 p.sys.edges.length ce12)) ∧ w'.cell? ⟨k9, 4, none⟩ = some ((Value.slice am12 p.marks.length cm12)) ∧ w'.cell? ⟨k9, 5, none⟩ = some ((Value.slice an12 p.names.length cn12)) ∧ w'.cell? ⟨n0, 0, none⟩ = some ((Value.int .i64 p.sys.states)) ∧ w'.cell? ⟨n0, 1, none⟩ = some ((Value.int .i64 p.sys.initial)) ∧ w'.cell? ⟨n0, 2, none⟩ = some (lv) ∧ w'.cell? ⟨n0, 3, none⟩ = some (ev) ∧ w'.cell? ⟨n0, 4, none⟩ = some (mv) ∧ w'.cell? ⟨n0, 5, none⟩ = some (nv))
    (first | exact GDH18.out | exact GEH18.out | exact GMH19.out | exact GZH20.out | go_keep)
    (first
      | (go_at_call 7; refine Calls.mono (HTP.out _ hD18) ?_; rintro e w19 ⟨lv19, ev19, mv19, nv19, rfl, hb19, hc19⟩; have hq19 : Below w18.heap.size w18 w19 := hr18.trans (hb19.mono (by simp)); have GMH19 : Hid (w19.cell? ⟨k9, 0, none⟩ = some ((Value.int .i64 p.sys.states)) ∧ w19.cell? ⟨k9, 1, none⟩ = some ((Value.int .i64 p.sys.initial)) ∧ w19.cell? ⟨k9, 2, none⟩ = some ((Value.slice a12 p.sys.labels.length c12)) ∧ w19.cell? ⟨k9, 3, none⟩ = some ((Value.slice ae12 p.sys.edges.length ce12)) ∧ w19.cell? ⟨k9, 4, none⟩ = some ((Value.slice am12 p.marks.length cm12)) ∧ w19.cell? ⟨k9, 5, none⟩ = some ((Value.slice an12 p.names.length cn12)) ∧ w19.cell? ⟨n0, 0, none⟩ = some ((Value.int .i64 p.sys.states)) ∧ w19.cell? ⟨n0, 1, none⟩ = some ((Value.int .i64 p.sys.initial)) ∧ w19.cell? ⟨n0, 2, none⟩ = some (lv) ∧ w19.cell? ⟨n0, 3, none⟩ = some (ev) ∧ w19.cell? ⟨n0, 4, none⟩ = some (mv) ∧ w19.cell? ⟨n0, 5, none⟩ = some (nv)) := ⟨(X18.out.below hq19).cell 0 rfl, (X18.out.below hq19).cell 1 rfl, (X18.out.below hq19).cell 2 rfl, (X18.out.below hq19).cell 3 rfl, (X18.out.below hq19).cell 4 rfl, (X18.out.below hq19).cell 5 rfl, ((HBX.out.below D18.out).below hq19).one.cell 0 rfl, ((HBX.out.below D18.out).below hq19).one.cell 1 rfl, ((HBX.out.below D18.out).below hq19).one.cell 2 rfl, ((HBX.out.below D18.out).below hq19).one.cell 3 rfl, ((HBX.out.below D18.out).below hq19).one.cell 4 rfl, ((HBX.out.below D18.out).below hq19).one.cell 5 rfl⟩)
      | (go_at_call 10; refine (eqPlant_same 0 0 p _ _ _ _ _ _ _ _ _ (P18.out.below hq19) hc19).mono ?_; rintro e w20 ⟨rfl, hb20⟩; have hq20 : Below w18.heap.size w18 w20 := hq19.trans (hb20.mono hq19.size); have GZH20 : Hid (w20.cell? ⟨k9, 0, none⟩ = some ((Value.int .i64 p.sys.states)) ∧ w20.cell? ⟨k9, 1, none⟩ = some ((Value.int .i64 p.sys.initial)) ∧ w20.cell? ⟨k9, 2, none⟩ = some ((Value.slice a12 p.sys.labels.length c12)) ∧ w20.cell? ⟨k9, 3, none⟩ = some ((Value.slice ae12 p.sys.edges.length ce12)) ∧ w20.cell? ⟨k9, 4, none⟩ = some ((Value.slice am12 p.marks.length cm12)) ∧ w20.cell? ⟨k9, 5, none⟩ = some ((Value.slice an12 p.names.length cn12)) ∧ w20.cell? ⟨n0, 0, none⟩ = some ((Value.int .i64 p.sys.states)) ∧ w20.cell? ⟨n0, 1, none⟩ = some ((Value.int .i64 p.sys.initial)) ∧ w20.cell? ⟨n0, 2, none⟩ = some (lv) ∧ w20.cell? ⟨n0, 3, none⟩ = some (ev) ∧ w20.cell? ⟨n0, 4, none⟩ = some (mv) ∧ w20.cell? ⟨n0, 5, none⟩ = some (nv)) := ⟨(X18.out.below hq20).cell 0 rfl, (X18.out.below hq20).cell 1 rfl, (X18.out.below hq20).cell 2 rfl, (X18.out.below hq20).cell 3 rfl, (X18.out.below hq20).cell 4 rfl, (X18.out.below hq20).cell 5 rfl, ((HBX.out.below D18.out).below hq20).one.cell 0 rfl, ((HBX.out.below D18.out).below hq20).one.cell 1 rfl, ((HBX.out.below D18.out).below hq20).one.cell 2 rfl, ((HBX.out.below D18.out).below hq20).one.cell 3 rfl, ((HBX.out.below D18.out).below hq20).one.cell 4 rfl, ((HBX.out.below D18.out).below hq20).one.cell 5 rfl⟩))
  have D20 := Lib.hid (D18.out.trans (hq20.mono D18.out.size))
  have X20 := Lib.hid (X18.out.below hq20)
  have Y20 := Lib.hid (Y18.out.below hq20)
  have Z20 := Lib.hid (Z18.out.below hq20)
  have P20 := Lib.hid (P18.out.below hq20)
  have R20 := Lib.hid (R18.out.below hq20)
  have S20 := Lib.hid (S18.out.below hq20)
  clear GDH18 GEH18 GMH19 GZH20 hr18 hD18 hb19 hc19 hb20 hq19 hq20
  go_wp2_with fail
  have hr20 : Below w20.heap.size w20 w20.drew := (Below.refl _ _).drew
  have GDH20 : Hid (w20.drew.cell? ⟨k10, 0, none⟩ = some ((Value.int .i64 r.states)) ∧ w20.drew.cell? ⟨k10, 1, none⟩ = some ((Value.int .i64 r.initial)) ∧ w20.drew.cell? ⟨k10, 2, none⟩ = some ((Value.slice a14 r.labels.length c14)) ∧ w20.drew.cell? ⟨k10, 3, none⟩ = some ((Value.slice ae14 r.edges.length ce14)) ∧ w20.drew.cell? ⟨n0 + 1, 0, none⟩ = some ((Value.int .i64 r.states)) ∧ w20.drew.cell? ⟨n0 + 1, 1, none⟩ = some ((Value.int .i64 r.initial)) ∧ w20.drew.cell? ⟨n0 + 1, 2, none⟩ = some (lr) ∧ w20.drew.cell? ⟨n0 + 1, 3, none⟩ = some (er)) := ⟨(Y20.out.below hr20).cell 0 rfl, (Y20.out.below hr20).cell 1 rfl, (Y20.out.below hr20).cell 2 rfl, (Y20.out.below hr20).cell 3 rfl, ((HBX.out.below D20.out).below hr20).two.cell 0 rfl, ((HBX.out.below D20.out).below hr20).two.cell 1 rfl, ((HBX.out.below D20.out).below hr20).two.cell 2 rfl, ((HBX.out.below D20.out).below hr20).two.cell 3 rfl⟩
  have GEH20 : Hid (w20.cell? ⟨k10, 0, none⟩ = some ((Value.int .i64 r.states)) ∧ w20.cell? ⟨k10, 1, none⟩ = some ((Value.int .i64 r.initial)) ∧ w20.cell? ⟨k10, 2, none⟩ = some ((Value.slice a14 r.labels.length c14)) ∧ w20.cell? ⟨k10, 3, none⟩ = some ((Value.slice ae14 r.edges.length ce14)) ∧ w20.cell? ⟨n0 + 1, 0, none⟩ = some ((Value.int .i64 r.states)) ∧ w20.cell? ⟨n0 + 1, 1, none⟩ = some ((Value.int .i64 r.initial)) ∧ w20.cell? ⟨n0 + 1, 2, none⟩ = some (lr) ∧ w20.cell? ⟨n0 + 1, 3, none⟩ = some (er)) := ⟨(Y20.out.below (Below.refl _ _)).cell 0 rfl, (Y20.out.below (Below.refl _ _)).cell 1 rfl, (Y20.out.below (Below.refl _ _)).cell 2 rfl, (Y20.out.below (Below.refl _ _)).cell 3 rfl, ((HBX.out.below D20.out).below (Below.refl _ _)).two.cell 0 rfl, ((HBX.out.below D20.out).below (Below.refl _ _)).two.cell 1 rfl, ((HBX.out.below D20.out).below (Below.refl _ _)).two.cell 2 rfl, ((HBX.out.below D20.out).below (Below.refl _ _)).two.cell 3 rfl⟩
  have hD20 : Below W1.heap.size W1 w20.drew := D20.out.drew
  go_region_held3 (fun w' => w'.cell? ⟨k10, 0, none⟩ = some ((Value.int .i64 r.states)) ∧ w'.cell? ⟨k10, 1, none⟩ = some ((Value.int .i64 r.initial)) ∧ w'.cell? ⟨k10, 2, none⟩ = some ((Value.slice a14 r.labels.length c14)) ∧ w'.cell? ⟨k10, 3, none⟩ = some ((Value.slice ae14 r.edges.length ce14)) ∧ w'.cell? ⟨n0 + 1, 0, none⟩ = some ((Value.int .i64 r.states)) ∧ w'.cell? ⟨n0 + 1, 1, none⟩ = some ((Value.int .i64 r.initial)) ∧ w'.cell? ⟨n0 + 1, 2, none⟩ = some (lr) ∧ w'.cell? ⟨n0 + 1, 3, none⟩ = some (er))
    (first | exact GDH20.out | exact GEH20.out | exact GMH21.out | exact GZH22.out | go_keep)
    (first
      | (go_at_call 8; refine Calls.mono (HTR.out _ hD20) ?_; rintro e w21 ⟨lr21, er21, rfl, hb21, hc21⟩; have hq21 : Below w20.heap.size w20 w21 := hr20.trans (hb21.mono (by simp)); have GMH21 : Hid (w21.cell? ⟨k10, 0, none⟩ = some ((Value.int .i64 r.states)) ∧ w21.cell? ⟨k10, 1, none⟩ = some ((Value.int .i64 r.initial)) ∧ w21.cell? ⟨k10, 2, none⟩ = some ((Value.slice a14 r.labels.length c14)) ∧ w21.cell? ⟨k10, 3, none⟩ = some ((Value.slice ae14 r.edges.length ce14)) ∧ w21.cell? ⟨n0 + 1, 0, none⟩ = some ((Value.int .i64 r.states)) ∧ w21.cell? ⟨n0 + 1, 1, none⟩ = some ((Value.int .i64 r.initial)) ∧ w21.cell? ⟨n0 + 1, 2, none⟩ = some (lr) ∧ w21.cell? ⟨n0 + 1, 3, none⟩ = some (er)) := ⟨(Y20.out.below hq21).cell 0 rfl, (Y20.out.below hq21).cell 1 rfl, (Y20.out.below hq21).cell 2 rfl, (Y20.out.below hq21).cell 3 rfl, ((HBX.out.below D20.out).below hq21).two.cell 0 rfl, ((HBX.out.below D20.out).below hq21).two.cell 1 rfl, ((HBX.out.below D20.out).below hq21).two.cell 2 rfl, ((HBX.out.below D20.out).below hq21).two.cell 3 rfl⟩)
      | (go_at_call 11; refine (eqLts_same _ _ 0 0 r _ ⟨_, _, rfl, (R20.out.below hq21).labels, (R20.out.below hq21).edges⟩ ⟨_, _, rfl, hc21.labels, hc21.edges⟩).mono ?_; rintro e w22 ⟨rfl, hb22⟩; have hq22 : Below w20.heap.size w20 w22 := hq21.trans (hb22.mono hq21.size); have GZH22 : Hid (w22.cell? ⟨k10, 0, none⟩ = some ((Value.int .i64 r.states)) ∧ w22.cell? ⟨k10, 1, none⟩ = some ((Value.int .i64 r.initial)) ∧ w22.cell? ⟨k10, 2, none⟩ = some ((Value.slice a14 r.labels.length c14)) ∧ w22.cell? ⟨k10, 3, none⟩ = some ((Value.slice ae14 r.edges.length ce14)) ∧ w22.cell? ⟨n0 + 1, 0, none⟩ = some ((Value.int .i64 r.states)) ∧ w22.cell? ⟨n0 + 1, 1, none⟩ = some ((Value.int .i64 r.initial)) ∧ w22.cell? ⟨n0 + 1, 2, none⟩ = some (lr) ∧ w22.cell? ⟨n0 + 1, 3, none⟩ = some (er)) := ⟨(Y20.out.below hq22).cell 0 rfl, (Y20.out.below hq22).cell 1 rfl, (Y20.out.below hq22).cell 2 rfl, (Y20.out.below hq22).cell 3 rfl, ((HBX.out.below D20.out).below hq22).two.cell 0 rfl, ((HBX.out.below D20.out).below hq22).two.cell 1 rfl, ((HBX.out.below D20.out).below hq22).two.cell 2 rfl, ((HBX.out.below D20.out).below hq22).two.cell 3 rfl⟩))
  have D22 := Lib.hid (D20.out.trans (hq22.mono D20.out.size))
  have X22 := Lib.hid (X20.out.below hq22)
  have Y22 := Lib.hid (Y20.out.below hq22)
  have Z22 := Lib.hid (Z20.out.below hq22)
  have P22 := Lib.hid (P20.out.below hq22)
  have R22 := Lib.hid (R20.out.below hq22)
  have S22 := Lib.hid (S20.out.below hq22)
  clear GDH20 GEH20 GMH21 GZH22 hr20 hD20 hb21 hc21 hb22 hq21 hq22
  go_wp2_with fail
  have hr22 : Below w22.heap.size w22 w22.drew := (Below.refl _ _).drew
  have GDH22 : Hid (w22.drew.cell? ⟨k11, 0, none⟩ = some ((Value.int .i64 s.states)) ∧ w22.drew.cell? ⟨k11, 1, none⟩ = some ((Value.int .i64 s.initial)) ∧ w22.drew.cell? ⟨k11, 2, none⟩ = some ((Value.slice a16 s.labels.length c16)) ∧ w22.drew.cell? ⟨k11, 3, none⟩ = some ((Value.slice ae16 s.edges.length ce16)) ∧ w22.drew.cell? ⟨n0 + 1 + 1, 0, none⟩ = some ((Value.int .i64 s.states)) ∧ w22.drew.cell? ⟨n0 + 1 + 1, 1, none⟩ = some ((Value.int .i64 s.initial)) ∧ w22.drew.cell? ⟨n0 + 1 + 1, 2, none⟩ = some (ls) ∧ w22.drew.cell? ⟨n0 + 1 + 1, 3, none⟩ = some (es)) := ⟨(Z22.out.below hr22).cell 0 rfl, (Z22.out.below hr22).cell 1 rfl, (Z22.out.below hr22).cell 2 rfl, (Z22.out.below hr22).cell 3 rfl, ((HBX.out.below D22.out).below hr22).three.cell 0 rfl, ((HBX.out.below D22.out).below hr22).three.cell 1 rfl, ((HBX.out.below D22.out).below hr22).three.cell 2 rfl, ((HBX.out.below D22.out).below hr22).three.cell 3 rfl⟩
  have GEH22 : Hid (w22.cell? ⟨k11, 0, none⟩ = some ((Value.int .i64 s.states)) ∧ w22.cell? ⟨k11, 1, none⟩ = some ((Value.int .i64 s.initial)) ∧ w22.cell? ⟨k11, 2, none⟩ = some ((Value.slice a16 s.labels.length c16)) ∧ w22.cell? ⟨k11, 3, none⟩ = some ((Value.slice ae16 s.edges.length ce16)) ∧ w22.cell? ⟨n0 + 1 + 1, 0, none⟩ = some ((Value.int .i64 s.states)) ∧ w22.cell? ⟨n0 + 1 + 1, 1, none⟩ = some ((Value.int .i64 s.initial)) ∧ w22.cell? ⟨n0 + 1 + 1, 2, none⟩ = some (ls) ∧ w22.cell? ⟨n0 + 1 + 1, 3, none⟩ = some (es)) := ⟨(Z22.out.below (Below.refl _ _)).cell 0 rfl, (Z22.out.below (Below.refl _ _)).cell 1 rfl, (Z22.out.below (Below.refl _ _)).cell 2 rfl, (Z22.out.below (Below.refl _ _)).cell 3 rfl, ((HBX.out.below D22.out).below (Below.refl _ _)).three.cell 0 rfl, ((HBX.out.below D22.out).below (Below.refl _ _)).three.cell 1 rfl, ((HBX.out.below D22.out).below (Below.refl _ _)).three.cell 2 rfl, ((HBX.out.below D22.out).below (Below.refl _ _)).three.cell 3 rfl⟩
  have hD22 : Below W1.heap.size W1 w22.drew := D22.out.drew
  go_region_held3 (fun w' => w'.cell? ⟨k11, 0, none⟩ = some ((Value.int .i64 s.states)) ∧ w'.cell? ⟨k11, 1, none⟩ = some ((Value.int .i64 s.initial)) ∧ w'.cell? ⟨k11, 2, none⟩ = some ((Value.slice a16 s.labels.length c16)) ∧ w'.cell? ⟨k11, 3, none⟩ = some ((Value.slice ae16 s.edges.length ce16)) ∧ w'.cell? ⟨n0 + 1 + 1, 0, none⟩ = some ((Value.int .i64 s.states)) ∧ w'.cell? ⟨n0 + 1 + 1, 1, none⟩ = some ((Value.int .i64 s.initial)) ∧ w'.cell? ⟨n0 + 1 + 1, 2, none⟩ = some (ls) ∧ w'.cell? ⟨n0 + 1 + 1, 3, none⟩ = some (es))
    (first | exact GDH22.out | exact GEH22.out | exact GMH23.out | exact GZH24.out | go_keep)
    (first
      | (go_at_call 8; refine Calls.mono (HTS.out _ hD22) ?_; rintro e w23 ⟨ls23, es23, rfl, hb23, hc23⟩; have hq23 : Below w22.heap.size w22 w23 := hr22.trans (hb23.mono (by simp)); have GMH23 : Hid (w23.cell? ⟨k11, 0, none⟩ = some ((Value.int .i64 s.states)) ∧ w23.cell? ⟨k11, 1, none⟩ = some ((Value.int .i64 s.initial)) ∧ w23.cell? ⟨k11, 2, none⟩ = some ((Value.slice a16 s.labels.length c16)) ∧ w23.cell? ⟨k11, 3, none⟩ = some ((Value.slice ae16 s.edges.length ce16)) ∧ w23.cell? ⟨n0 + 1 + 1, 0, none⟩ = some ((Value.int .i64 s.states)) ∧ w23.cell? ⟨n0 + 1 + 1, 1, none⟩ = some ((Value.int .i64 s.initial)) ∧ w23.cell? ⟨n0 + 1 + 1, 2, none⟩ = some (ls) ∧ w23.cell? ⟨n0 + 1 + 1, 3, none⟩ = some (es)) := ⟨(Z22.out.below hq23).cell 0 rfl, (Z22.out.below hq23).cell 1 rfl, (Z22.out.below hq23).cell 2 rfl, (Z22.out.below hq23).cell 3 rfl, ((HBX.out.below D22.out).below hq23).three.cell 0 rfl, ((HBX.out.below D22.out).below hq23).three.cell 1 rfl, ((HBX.out.below D22.out).below hq23).three.cell 2 rfl, ((HBX.out.below D22.out).below hq23).three.cell 3 rfl⟩)
      | (go_at_call 11; refine (eqLts_same _ _ 0 0 s _ ⟨_, _, rfl, (S22.out.below hq23).labels, (S22.out.below hq23).edges⟩ ⟨_, _, rfl, hc23.labels, hc23.edges⟩).mono ?_; rintro e w24 ⟨rfl, hb24⟩; have hq24 : Below w22.heap.size w22 w24 := hq23.trans (hb24.mono hq23.size); have GZH24 : Hid (w24.cell? ⟨k11, 0, none⟩ = some ((Value.int .i64 s.states)) ∧ w24.cell? ⟨k11, 1, none⟩ = some ((Value.int .i64 s.initial)) ∧ w24.cell? ⟨k11, 2, none⟩ = some ((Value.slice a16 s.labels.length c16)) ∧ w24.cell? ⟨k11, 3, none⟩ = some ((Value.slice ae16 s.edges.length ce16)) ∧ w24.cell? ⟨n0 + 1 + 1, 0, none⟩ = some ((Value.int .i64 s.states)) ∧ w24.cell? ⟨n0 + 1 + 1, 1, none⟩ = some ((Value.int .i64 s.initial)) ∧ w24.cell? ⟨n0 + 1 + 1, 2, none⟩ = some (ls) ∧ w24.cell? ⟨n0 + 1 + 1, 3, none⟩ = some (es)) := ⟨(Z22.out.below hq24).cell 0 rfl, (Z22.out.below hq24).cell 1 rfl, (Z22.out.below hq24).cell 2 rfl, (Z22.out.below hq24).cell 3 rfl, ((HBX.out.below D22.out).below hq24).three.cell 0 rfl, ((HBX.out.below D22.out).below hq24).three.cell 1 rfl, ((HBX.out.below D22.out).below hq24).three.cell 2 rfl, ((HBX.out.below D22.out).below hq24).three.cell 3 rfl⟩))
  have D24 := Lib.hid (D22.out.trans (hq24.mono D22.out.size))
  have X24 := Lib.hid (X22.out.below hq24)
  have Y24 := Lib.hid (Y22.out.below hq24)
  have Z24 := Lib.hid (Z22.out.below hq24)
  have P24 := Lib.hid (P22.out.below hq24)
  have R24 := Lib.hid (R22.out.below hq24)
  have S24 := Lib.hid (S22.out.below hq24)
  clear GDH22 GEH22 GMH23 GZH24 hr22 hD22 hb23 hc23 hb24 hq23 hq24
  go_wp2_with fail
  go_ret
  exact ⟨rfl, HB1.out.trans (D24.out.mono HB1.out.size)⟩

end Go.Proofs.YtkffdamgekoifaaGreatDoor
