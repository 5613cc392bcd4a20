/-
  What the implementation's any and the closure of stay compute.
-/
import Derived.Test.YtaccfpacemhaaaaGreatDoorImpl16
namespace Go.Proofs.YtaccfpacemhaaaaGreatDoor
open Go Go.RowKit

/-- A model with a property: what is known of both. -/
structure Both (lo S P : Nat) (t p : Lts) (lv ev lv2 ev2 : Value) (w : World) : Prop where
  vt : Valid t
  vp : Valid p
  sp : Single p
  hS : (S : Int) = t.states
  hP : (P : Int) = p.states
  s1 : SliceK 1 encS lo w lv t.labels
  s2 : SliceK 3 encE lo w ev t.edges
  q1 : SliceK 1 encS lo w lv2 p.labels
  q2 : SliceK 3 encE lo w ev2 p.edges

theorem Both.below {lo S P : Nat} {t p : Lts} {lv ev lv2 ev2 : Value} {w w' : World} (h : Both lo S P t p lv ev lv2 ev2 w) (hb : Below w.heap.size w w') : Both lo S P t p lv ev lv2 ev2 w' :=
  ⟨h.vt, h.vp, h.sp, h.hS, h.hP, h.s1.below hb, h.s2.below hb, h.q1.below hb, h.q2.below hb⟩

set_option maxRecDepth 100000 in
set_option maxHeartbeats 1000000 in
theorem any_any (lo bm S P : Nat) (c : List Bool) (g : Nat) (gs : List Nat) (t p : Lts) (lv ev lv2 ev2 : Value) (x q : Int) (w : World) (hO : Both lo S P t p lv ev lv2 ev2 w) (hm : Mat w bm S P c g gs) (h0 : 0 ≤ q) (h1 : q < P) :
    Calls Tryz.prog 40 #[.agg #[.int .i64 t.states, .int .i64 t.initial, lv, ev, .int .i64 p.states, .int .i64 p.initial, lv2, ev2], .int .i64 x, .int .i64 q, .func (.func 53) #[] #[.pointer (some ⟨bm, 0, none⟩)]] w
      fun e w' => e = .returned (.bool (goesB t p c (outOf t x) q)) ∧ Below w.heap.size w w' := by
  obtain ⟨W1, hW1⟩ : ∃ W1, W1 = w.alloc (.cells #[.int .i64 t.states, .int .i64 t.initial, lv, ev, .int .i64 p.states, .int .i64 p.initial, lv2, ev2] 52) := ⟨_, rfl⟩
  obtain ⟨W2, hW2⟩ : ∃ W2, W2 = W1.alloc (.cells #[.func (.func 53) #[] #[.pointer (some ⟨bm, 0, none⟩)]] 71) := ⟨_, rfl⟩
  obtain ⟨W3, hW3⟩ : ∃ W3, W3 = W2.alloc (.cells #[.bool false] 4) := ⟨_, rfl⟩
  have z1 : W1.heap.size = w.heap.size + 1 := by rw [hW1]; simp
  have z2 : W2.heap.size = w.heap.size + 2 := by rw [hW2]; simp [z1]
  have hb : Below w.heap.size w W3 := by
    rw [hW3, hW2, hW1]
    exact ((box_below _ _ _).alloc (by simp) _).alloc (by simp; omega) _
  have hi : Blk W3 (w.heap.size + 1) [.func (.func 53) #[] #[.pointer (some ⟨bm, 0, none⟩)]] 71 := by
    rw [hW3, hW2, ← z1]
    exact (Blk.new W1 _ _).alloc _
  have hf : Blk W3 (w.heap.size + 2) [.bool false] 4 := by
    rw [hW3, ← z2]
    exact Blk.new W2 _ _
  have HC := Lib.hid (moves_any lo bm (w.heap.size + 2) (w.heap.size + 1) S P c g gs t p lv ev lv2 ev2 x q w W3 hO.vt hO.vp hO.sp hO.hS hO.hP hO.s1 hO.s2 hO.q1 hO.q2 hm hb hf hi (by omega) (by omega) (by omega) h0 h1)
  rw [hW3, hW2, hW1] at HC
  clear hb hi hf z1 z2 hW1 hW2 hW3 hO hm
  go_enter Tryz.func40, Tryz.ntmps40
  go_wp2_with fail
  refine Calls.mono HC.out ?_
  rintro e w2 ⟨rfl, hb2, hf2⟩
  have HB2 := Lib.hid hb2
  have f0 := hf2.cell 0 rfl
  clear hb2 hf2
  go_wp2_with fail
  go_ret
  exact ⟨rfl, HB2.out⟩

set_option maxRecDepth 100000 in
set_option maxHeartbeats 1000000 in
theorem stay1_any (lo ob bm S P : Nat) (c : List Bool) (g : Nat) (gs : List Nat) (t p : Lts) (lv ev lv2 ev2 : Value) (x q : Int) (w : World) (hO : Both lo S P t p lv ev lv2 ev2 w) (hm : Mat w bm S P c g gs) (h0 : 0 ≤ q) (h1 : q < P)
    (hob : Blk w ob [.int .i64 t.states, .int .i64 t.initial, lv, ev, .int .i64 p.states, .int .i64 p.initial, lv2, ev2] 52) :
    Calls Tryz.prog 38 #[.int .i64 x, .int .i64 q, .func (.func 53) #[] #[.pointer (some ⟨bm, 0, none⟩)], .pointer (some ⟨ob, 0, none⟩)] w
      fun e w' => e = .returned (.bool (!(outOf t x).isEmpty && !goesB t p c (outOf t x) q)) ∧ Below w.heap.size w w' := by
  have HO := Lib.hid hO
  have HM := Lib.hid hm
  have HOB := Lib.hid hob
  have k0 := hob.cell 0 rfl
  have k1 := hob.cell 1 rfl
  have k2 := hob.cell 2 rfl
  have k3 := hob.cell 3 rfl
  have HC := Lib.hid (out_any lo t lv ev x w (by have := hO.vt.most; omega) hO.s2)
  have hll : (outOf t x).length ≤ 300 := by have := hO.vt.most; unfold outOf; exact Nat.le_trans (List.length_filter_le _ _) this
  clear hO hm hob
  go_enter Tryz.func38, Tryz.ntmps38
  go_wp2_with fail
  refine Calls.mono HC.out ?_
  rintro e w1 ⟨v, rfl, hb1, ho1⟩
  have HB1 := Lib.hid hb1
  have HOB1 := Lib.hid (HOB.out.below hb1)
  have d0 := HOB1.out.cell 0 rfl
  have d1 := HOB1.out.cell 1 rfl
  have d2 := HOB1.out.cell 2 rfl
  have d3 := HOB1.out.cell 3 rfl
  have d4 := HOB1.out.cell 4 rfl
  have d5 := HOB1.out.cell 5 rfl
  have d6 := HOB1.out.cell 6 rfl
  have d7 := HOB1.out.cell 7 rfl
  obtain ⟨av, cv, rfl, hc1, hc2⟩ := owns_slice ho1
  obtain ⟨n, hn⟩ : ∃ n, n = (outOf t x).length := ⟨_, rfl⟩
  have HN := Lib.hid hn
  rw [← hn] at hll
  simp only [← hn]
  clear ho1 hb1 hc1 hn k0 k1 k2 k3 HC
  by_cases h2 : 0 < (n : Int)
  · have HE : Hid ((outOf t x).isEmpty = false) := by
      unfold Hid
      have := HN.out
      cases hx : outOf t x with
      | nil => rw [hx] at this; simp at this; omega
      | cons a r => rfl
    go_wp2_with fail
    refine (any_any lo bm S P c g gs t p lv ev lv2 ev2 x q _ (HO.out.below HB1.out) (HM.out.below HB1.out) h0 h1).mono ?_
    rintro e w2 ⟨rfl, hb2⟩
    have HB2 := Lib.hid (HB1.out.trans (hb2.mono HB1.out.size))
    clear hb2
    go_wp2_with fail
    go_ret
    exact ⟨ret_bool (by rw [HE.out]; simp), HB2.out⟩
  · have HE : Hid ((outOf t x).isEmpty = true) := by
      unfold Hid
      rw [List.isEmpty_iff_length_eq_zero, ← HN.out]
      omega
    go_wp2_with fail
    go_ret
    exact ⟨ret_bool (by rw [HE.out]; simp), HB1.out⟩

end Go.Proofs.YtaccfpacemhaaaaGreatDoor
