/-
  What the reference's IsSupervisor computes.
-/
import Derived.Test.YtkffdamgekoifaaGreatDoorSpec14
namespace Go.Proofs.YtkffdamgekoifaaGreatDoor
open Go Go.RowKit

set_option maxRecDepth 100000 in
set_option maxHeartbeats 2000000 in
theorem specIsSupervisor_any (lo : Nat) (p : Plant) (r s : Lts) (lv ev mv nv lr er ls es : Value) (w : World) (h1 : Short p.sys.labels) (h2 : Short r.labels) (h3 : Short s.labels)
    (hp : PlantIn lo w lv ev mv nv p) (hr : LtsIn lo w lr er r) (hs : LtsIn lo w ls es s) :
    Calls Tryz.prog 6 #[.agg #[.int .i64 p.sys.states, .int .i64 p.sys.initial, lv, ev, mv, nv], .agg #[.int .i64 r.states, .int .i64 r.initial, lr, er], .agg #[.int .i64 s.states, .int .i64 s.initial, ls, es]] w (Decides (Supervises p r s) w) := by
  obtain ⟨W, hW⟩ : ∃ W, W = ((w.alloc (.cells #[.int .i64 p.sys.states, .int .i64 p.sys.initial, lv, ev, mv, nv] 36)).alloc (.cells #[.int .i64 r.states, .int .i64 r.initial, lr, er] 34)).alloc (.cells #[.int .i64 s.states, .int .i64 s.initial, ls, es] 34) := ⟨_, rfl⟩
  have hB0 : Below w.heap.size w W := by rw [hW]; exact (((Below.refl _ _).alloc (Nat.le_refl _) _).alloc (by simp) _).alloc (by simp; omega) _
  have e1 : Blk W w.heap.size [.int .i64 p.sys.states, .int .i64 p.sys.initial, lv, ev, mv, nv] 36 := by rw [hW]; exact ((Blk.new w _ _).alloc _).alloc _
  have e2 : Blk W (w.heap.size + 1) [.int .i64 r.states, .int .i64 r.initial, lr, er] 34 := by
    rw [hW]
    have := Blk.new (w.alloc (.cells #[.int .i64 p.sys.states, .int .i64 p.sys.initial, lv, ev, mv, nv] 36)) [.int .i64 r.states, .int .i64 r.initial, lr, er] 34
    rw [World.size_alloc] at this
    exact this.alloc _
  have e3 : Blk W (w.heap.size + 1 + 1) [.int .i64 s.states, .int .i64 s.initial, ls, es] 34 := by
    rw [hW]
    have := Blk.new ((w.alloc (.cells #[.int .i64 p.sys.states, .int .i64 p.sys.initial, lv, ev, mv, nv] 36)).alloc (.cells #[.int .i64 r.states, .int .i64 r.initial, lr, er] 34)) [.int .i64 s.states, .int .i64 s.initial, ls, es] 34
    rw [World.size_alloc, World.size_alloc] at this
    exact this
  have HPP := Lib.hid ((hp.below hB0).ptr e1)
  have HRP := Lib.hid ((hr.below hB0).ptr e2)
  have HSP := Lib.hid ((hs.below hB0).ptr e3)
  have HB0 := Lib.hid hB0
  have HW := Lib.hid hW
  have HS1 := Lib.hid h1
  have HS2 := Lib.hid h2
  have HS3 := Lib.hid h3
  clear hp hr hs h1 h2 h3 hB0 hW e1 e2 e3
  by_cases hp : PlantOk p
  · have HP := Lib.hid hp
    clear hp
    by_cases hr : Free r
    · have HR := Lib.hid hr
      clear hr
      by_cases hs : Free s
      · have HS := Lib.hid hs
        clear hs
        go_enter Tryz.func6, Tryz.ntmps6
        go_wp2_with fail
        rw [← HW.out]
        refine (Decides.yes (l29Is_any _ lo p _ HS1.out HPP.out) HP.out).mono ?_
        rintro e w1 ⟨rfl, hb1⟩
        have HB1 := Lib.hid hb1
        clear hb1
        go_wp2_with fail
        refine (Decides.yes (l29Free_any _ lo r _ HS2.out (HRP.out.below HB1.out)) HR.out).mono ?_
        rintro e w2 ⟨rfl, hb2⟩
        have HB2 := Lib.hid (HB1.out.trans (hb2.mono HB1.out.size))
        clear hb2
        go_wp2_with fail
        refine (Decides.yes (l29Free_any _ lo s _ HS3.out (HSP.out.below HB2.out)) HS.out).mono ?_
        rintro e w3 ⟨rfl, hb3⟩
        have HB3 := Lib.hid (HB2.out.trans (hb3.mono HB2.out.size))
        clear hb3
        go_wp2_with fail
        refine Calls.mono (l29Triples_any _ _ _ lo p r s _ HP.out.free.valid HR.out.valid HS.out.valid (HPP.out.below HB3.out) (HRP.out.below HB3.out) (HSP.out.below HB3.out) HS1.out) ?_
        rintro e w4 ⟨b, rfl, hb, hb4⟩
        have HB4 := Lib.hid (HB3.out.trans (hb4.mono HB3.out.size))
        have HBB := Lib.hid hb
        clear hb4 hb
        go_wp2_with fail
        go_ret
        exact ⟨b, rfl, ⟨fun h => ⟨HP.out, HR.out, HS.out, HBB.out.1 h⟩, fun h => HBB.out.2 h.2.2.2⟩, HB0.out.trans (HB4.out.mono HB0.out.size)⟩
      · have HS := Lib.hid hs
        clear hs
        go_enter Tryz.func6, Tryz.ntmps6
        go_wp2_with fail
        rw [← HW.out]
        refine (Decides.yes (l29Is_any _ lo p _ HS1.out HPP.out) HP.out).mono ?_
        rintro e w1 ⟨rfl, hb1⟩
        have HB1 := Lib.hid hb1
        clear hb1
        go_wp2_with fail
        refine (Decides.yes (l29Free_any _ lo r _ HS2.out (HRP.out.below HB1.out)) HR.out).mono ?_
        rintro e w2 ⟨rfl, hb2⟩
        have HB2 := Lib.hid (HB1.out.trans (hb2.mono HB1.out.size))
        clear hb2
        go_wp2_with fail
        refine (Decides.no (l29Free_any _ lo s _ HS3.out (HSP.out.below HB2.out)) HS.out).mono ?_
        rintro e w3 ⟨rfl, hb3⟩
        have HB3 := Lib.hid (HB2.out.trans (hb3.mono HB2.out.size))
        clear hb3
        go_wp2_with fail
        go_ret
        exact ⟨false, rfl, ⟨(fun h => by cases h), fun h => absurd h.2.2.1 HS.out⟩, HB0.out.trans (HB3.out.mono HB0.out.size)⟩
    · have HR := Lib.hid hr
      clear hr
      go_enter Tryz.func6, Tryz.ntmps6
      go_wp2_with fail
      rw [← HW.out]
      refine (Decides.yes (l29Is_any _ lo p _ HS1.out HPP.out) HP.out).mono ?_
      rintro e w1 ⟨rfl, hb1⟩
      have HB1 := Lib.hid hb1
      clear hb1
      go_wp2_with fail
      refine (Decides.no (l29Free_any _ lo r _ HS2.out (HRP.out.below HB1.out)) HR.out).mono ?_
      rintro e w2 ⟨rfl, hb2⟩
      have HB2 := Lib.hid (HB1.out.trans (hb2.mono HB1.out.size))
      clear hb2
      go_wp2_with fail
      go_ret
      exact ⟨false, rfl, ⟨(fun h => by cases h), fun h => absurd h.2.1 HR.out⟩, HB0.out.trans (HB2.out.mono HB0.out.size)⟩
  · have HP := Lib.hid hp
    clear hp
    go_enter Tryz.func6, Tryz.ntmps6
    go_wp2_with fail
    rw [← HW.out]
    refine (Decides.no (l29Is_any _ lo p _ HS1.out HPP.out) HP.out).mono ?_
    rintro e w1 ⟨rfl, hb1⟩
    have HB1 := Lib.hid hb1
    clear hb1
    go_wp2_with fail
    go_ret
    exact ⟨false, rfl, ⟨(fun h => by cases h), fun h => absurd h.1 HP.out⟩, HB0.out.trans (HB1.out.mono HB0.out.size)⟩

end Go.Proofs.YtkffdamgekoifaaGreatDoor
