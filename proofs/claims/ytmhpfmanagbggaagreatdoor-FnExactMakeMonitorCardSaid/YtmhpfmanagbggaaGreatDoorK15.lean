/-
  What the implementation's any and the closure of stay compute.
  The program's any and leave's closure.
  What the library's Repeat computes of one truth value.
  What the library's Repeat computes of one truth value, either one.
  What the implementation's settle computes for the pairs that can stay.
-/
import Derived.Test.YtmhpfmanagbggaaGreatDoorK14
import Derived.Test.YtmhpfmanagbggaaGreatDoorK4
import Derived.Test.YtmhpfmanagbggaaGreatDoorK1
import Derived.Laws.CopyOwn
import Derived.Deep.RegionLaw
import Derived.Deep.RegionHeld3
namespace Go.Proofs.YtmhpfmanagbggaaGreatDoor
open Go Go.RowKit

/-- A model with a property: what is known of both. -/
structure Both (lo S P : Nat) (t p : Lts) (lv ev lv2 ev2 : Value) (w : World) : Prop where
 vt : Valid t
 vp : Valid p
 sp : Single p
 hS : (S : Int) = t.states
 hP : (P : Int) = p.states
 s1 : SliceK 1 encS lo w lv t.labels
 s2 : SliceK 3 encE lo w ev t.edges
 q1 : SliceK 1 encS lo w lv2 p.labels
 q2 : SliceK 3 encE lo w ev2 p.edges

theorem Both.below {lo S P : Nat} {t p : Lts} {lv ev lv2 ev2 : Value} {w w' : World} (h : Both lo S P t p lv ev lv2 ev2 w) (hb : Below w.heap.size w w') : Both lo S P t p lv ev lv2 ev2 w' :=
 ⟨h.vt, h.vp, h.sp, h.hS, h.hP, h.s1.below hb, h.s2.below hb, h.q1.below hb, h.q2.below hb⟩

set_option maxRecDepth 100000 in
set_option maxHeartbeats 1000000 in
theorem any_any (lo bm S P : Nat) (c : List Bool) (g : Nat) (gs : List Nat) (t p : Lts) (lv ev lv2 ev2 : Value) (x q : Int) (w : World) (hO : Both lo S P t p lv ev lv2 ev2 w) (hm : Mat w bm S P c g gs) (h0 : 0 ≤ q) (h1 : q < P) :
  Calls Tryz.prog 97 #[.agg #[.int .i64 t.states, .int .i64 t.initial, lv, ev, .int .i64 p.states, .int .i64 p.initial, lv2, ev2], .int .i64 x, .int .i64 q, .func (.func 121) #[] #[.pointer (some ⟨bm, 0, none⟩)]] w
   fun e w' => e = .returned (.bool (goesB t p c (outOf t x) q)) ∧ Below w.heap.size w w' := by
 obtain ⟨W1, hW1⟩ : ∃ W1, W1 = w.alloc (.cells #[.int .i64 t.states, .int .i64 t.initial, lv, ev, .int .i64 p.states, .int .i64 p.initial, lv2, ev2] 51) := ⟨_, rfl⟩
 obtain ⟨W2, hW2⟩ : ∃ W2, W2 = W1.alloc (.cells #[.func (.func 121) #[] #[.pointer (some ⟨bm, 0, none⟩)]] 133) := ⟨_, rfl⟩
 obtain ⟨W3, hW3⟩ : ∃ W3, W3 = W2.alloc (.cells #[.bool false] 4) := ⟨_, rfl⟩
 have z1 : W1.heap.size = w.heap.size + 1 := by rw [hW1]; simp
 have z2 : W2.heap.size = w.heap.size + 2 := by rw [hW2]; simp [z1]
 have hb : Below w.heap.size w W3 := by
  rw [hW3, hW2, hW1]
  exact ((box_below _ _ _).alloc (by simp) _).alloc (by simp; omega) _
 have hi : Blk W3 (w.heap.size + 1) [.func (.func 121) #[] #[.pointer (some ⟨bm, 0, none⟩)]] 133 := by
  rw [hW3, hW2, ← z1]
  exact (Blk.new W1 _ _).alloc _
 have hf : Blk W3 (w.heap.size + 2) [.bool false] 4 := by
  rw [hW3, ← z2]
  exact Blk.new W2 _ _
 have HC := Lib.hid (moves_any lo bm (w.heap.size + 2) (w.heap.size + 1) S P c g gs t p lv ev lv2 ev2 x q w W3 hO.vt hO.vp hO.sp hO.hS hO.hP hO.s1 hO.s2 hO.q1 hO.q2 hm hb hf hi (by omega) (by omega) (by omega) h0 h1)
 rw [hW3, hW2, hW1] at HC
 clear hb hi hf z1 z2 hW1 hW2 hW3 hO hm
 go_enter Tryz.func97, Tryz.ntmps97
 go_wp2_with fail
 refine Calls.mono HC.out ?_
 rintro e w2 ⟨rfl, hb2, hf2⟩
 have HB2 := Lib.hid hb2
 have f0 := hf2.cell 0 rfl
 clear hb2 hf2
 go_wp2_with fail
 go_ret
 exact ⟨rfl, HB2.out⟩

set_option maxRecDepth 100000 in
set_option maxHeartbeats 1000000 in
theorem stay1_any (lo ob bm S P : Nat) (c : List Bool) (g : Nat) (gs : List Nat) (t p : Lts) (lv ev lv2 ev2 : Value) (x q : Int) (w : World) (hO : Both lo S P t p lv ev lv2 ev2 w) (hm : Mat w bm S P c g gs) (h0 : 0 ≤ q) (h1 : q < P)
  (hob : Blk w ob [.int .i64 t.states, .int .i64 t.initial, lv, ev, .int .i64 p.states, .int .i64 p.initial, lv2, ev2] 51) :
  Calls Tryz.prog 99 #[.int .i64 x, .int .i64 q, .func (.func 121) #[] #[.pointer (some ⟨bm, 0, none⟩)], .pointer (some ⟨ob, 0, none⟩)] w
   fun e w' => e = .returned (.bool (!(outOf t x).isEmpty && !goesB t p c (outOf t x) q)) ∧ Below w.heap.size w w' := by
 have HO := Lib.hid hO
 have HM := Lib.hid hm
 have HOB := Lib.hid hob
 have k0 := hob.cell 0 rfl
 have k1 := hob.cell 1 rfl
 have k2 := hob.cell 2 rfl
 have k3 := hob.cell 3 rfl
 have HC := Lib.hid (out_any lo t lv ev x w (by have := hO.vt.most; omega) hO.s2)
 have hll : (outOf t x).length ≤ 300 := by have := hO.vt.most; unfold outOf; exact Nat.le_trans (List.length_filter_le _ _) this
 clear hO hm hob
 go_enter Tryz.func99, Tryz.ntmps99
 go_wp2_with fail
 refine Calls.mono HC.out ?_
 rintro e w1 ⟨v, rfl, hb1, ho1⟩
 have HB1 := Lib.hid hb1
 have HOB1 := Lib.hid (HOB.out.below hb1)
 have d0 := HOB1.out.cell 0 rfl
 have d1 := HOB1.out.cell 1 rfl
 have d2 := HOB1.out.cell 2 rfl
 have d3 := HOB1.out.cell 3 rfl
 have d4 := HOB1.out.cell 4 rfl
 have d5 := HOB1.out.cell 5 rfl
 have d6 := HOB1.out.cell 6 rfl
 have d7 := HOB1.out.cell 7 rfl
 obtain ⟨av, cv, rfl, hc1, hc2⟩ := owns_slice ho1
 obtain ⟨n, hn⟩ : ∃ n, n = (outOf t x).length := ⟨_, rfl⟩
 have HN := Lib.hid hn
 rw [← hn] at hll
 simp only [← hn]
 clear ho1 hb1 hc1 hn k0 k1 k2 k3 HC
 by_cases h2 : 0 < (n : Int)
 ·have HE : Hid ((outOf t x).isEmpty = false) := by
   unfold Hid
   have := HN.out
   cases hx : outOf t x with
   | nil => rw [hx] at this; simp at this; omega
   | cons a r => rfl
  go_wp2_with fail
  refine (any_any lo bm S P c g gs t p lv ev lv2 ev2 x q _ (HO.out.below HB1.out) (HM.out.below HB1.out) h0 h1).mono ?_
  rintro e w2 ⟨rfl, hb2⟩
  have HB2 := Lib.hid (HB1.out.trans (hb2.mono HB1.out.size))
  clear hb2
  go_wp2_with fail
  go_ret
  exact ⟨ret_bool (by rw [HE.out]; simp), HB2.out⟩
 ·have HE : Hid ((outOf t x).isEmpty = true) := by
   unfold Hid
   rw [List.isEmpty_iff_length_eq_zero, ← HN.out]
   omega
  go_wp2_with fail
  go_ret
  exact ⟨ret_bool (by rw [HE.out]; simp), HB1.out⟩

end Go.Proofs.YtmhpfmanagbggaaGreatDoor

namespace Go.Proofs.YtmhpfmanagbggaaGreatDoor
open Go Go.RowKit

set_option maxRecDepth 100000 in
set_option maxHeartbeats 1000000 in
theorem anyL_any (lo bm kb S P : Nat) (c : List Bool) (g : Nat) (gs : List Nat) (t p : Lts) (lv ev lv2 ev2 : Value) (x q : Int) (w : World) (hO : Both lo S P t p lv ev lv2 ev2 w) (hm : Mat w bm S P c g gs) (hk : Blk w kb [.func (.func 121) #[] #[.pointer (some ⟨bm, 0, none⟩)]] 133) (h0 : 0 ≤ q) (h1 : q < P) :
  Calls Tryz.prog 97 #[.agg #[.int .i64 t.states, .int .i64 t.initial, lv, ev, .int .i64 p.states, .int .i64 p.initial, lv2, ev2], .int .i64 x, .int .i64 q, .func (.func 98) #[] #[.pointer (some ⟨kb, 0, none⟩)]] w
   fun e w' => e = .returned (.bool (goesLv t p c (outOf t x) q)) ∧ Below w.heap.size w w' := by
 obtain ⟨W1, hW1⟩ : ∃ W1, W1 = w.alloc (.cells #[.int .i64 t.states, .int .i64 t.initial, lv, ev, .int .i64 p.states, .int .i64 p.initial, lv2, ev2] 51) := ⟨_, rfl⟩
 obtain ⟨W2, hW2⟩ : ∃ W2, W2 = W1.alloc (.cells #[.func (.func 98) #[] #[.pointer (some ⟨kb, 0, none⟩)]] 133) := ⟨_, rfl⟩
 obtain ⟨W3, hW3⟩ : ∃ W3, W3 = W2.alloc (.cells #[.bool false] 4) := ⟨_, rfl⟩
 have z1 : W1.heap.size = w.heap.size + 1 := by rw [hW1]; simp
 have z2 : W2.heap.size = w.heap.size + 2 := by rw [hW2]; simp [z1]
 have hb : Below w.heap.size w W3 := by
  rw [hW3, hW2, hW1]
  exact ((box_below _ _ _).alloc (by simp) _).alloc (by simp; omega) _
 have hi : Blk W3 (w.heap.size + 1) [.func (.func 98) #[] #[.pointer (some ⟨kb, 0, none⟩)]] 133 := by
  rw [hW3, hW2, ← z1]
  exact (Blk.new W1 _ _).alloc _
 have hf : Blk W3 (w.heap.size + 2) [.bool false] 4 := by
  rw [hW3, ← z2]
  exact Blk.new W2 _ _
 have HC := Lib.hid (movesL_any lo bm kb (w.heap.size + 2) (w.heap.size + 1) S P c g gs t p lv ev lv2 ev2 x q w W3 hO.vt hO.vp hO.sp hO.hS hO.hP hO.s1 hO.s2 hO.q1 hO.q2 hm hb hf hi (by omega) (by omega) (by omega) hk h0 h1)
 rw [hW3, hW2, hW1] at HC
 clear hk hb hi hf z1 z2 hW1 hW2 hW3 hO hm
 go_enter Tryz.func97, Tryz.ntmps97
 go_wp2_with fail
 refine Calls.mono HC.out ?_
 rintro e w2 ⟨rfl, hb2, hf2⟩
 have HB2 := Lib.hid hb2
 have f0 := hf2.cell 0 rfl
 clear hb2 hf2
 go_wp2_with fail
 go_ret
 exact ⟨rfl, HB2.out⟩


set_option maxRecDepth 100000 in
set_option maxHeartbeats 1000000 in
theorem leave1_any (lo ob bm S P : Nat) (c : List Bool) (g : Nat) (gs : List Nat) (t p : Lts) (lv ev lv2 ev2 : Value) (x q : Int) (w : World) (hO : Both lo S P t p lv ev lv2 ev2 w) (hm : Mat w bm S P c g gs) (h0 : 0 ≤ q) (h1 : q < P)
  (hob : Blk w ob [.int .i64 t.states, .int .i64 t.initial, lv, ev, .int .i64 p.states, .int .i64 p.initial, lv2, ev2] 51) :
  Calls Tryz.prog 96 #[.int .i64 x, .int .i64 q, .func (.func 121) #[] #[.pointer (some ⟨bm, 0, none⟩)], .pointer (some ⟨ob, 0, none⟩)] w
   fun e w' => e = .returned (.bool (goesLv t p c (outOf t x) q)) ∧ Below w.heap.size w w' := by
 obtain ⟨W, hW⟩ : ∃ W, W = w.alloc (.cells #[.func (.func 121) #[] #[.pointer (some ⟨bm, 0, none⟩)]] 133) := ⟨_, rfl⟩
 obtain ⟨kb, hkb⟩ : ∃ kb, kb = w.heap.size := ⟨_, rfl⟩
 have hb : Below w.heap.size w W := by rw [hW]; exact box_below _ _ _
 have hK : Blk W kb [.func (.func 121) #[] #[.pointer (some ⟨bm, 0, none⟩)]] 133 := by rw [hW, hkb]; exact Blk.new w _ _
 have hoW := hob.below hb
 have d0 := hoW.cell 0 rfl
 have d1 := hoW.cell 1 rfl
 have d2 := hoW.cell 2 rfl
 have d3 := hoW.cell 3 rfl
 have d4 := hoW.cell 4 rfl
 have d5 := hoW.cell 5 rfl
 have d6 := hoW.cell 6 rfl
 have d7 := hoW.cell 7 rfl
 have hol := hoW.lt
 have HC := Lib.hid (anyL_any lo bm kb S P c g gs t p lv ev lv2 ev2 x q W (hO.below hb) (hm.below hb) hK h0 h1)
 have HB := Lib.hid hb
 have HW := Lib.hid hW
 have HKB := Lib.hid hkb
 rw [hW] at d0 d1 d2 d3 d4 d5 d6 d7 hol
 clear hO hm hob hb hK hoW hW hkb
 go_enter Tryz.func96, Tryz.ntmps96
 go_wp2_with fail
 rw [← HW.out]
 try rw [← HKB.out]
 refine Calls.mono HC.out ?_
 rintro e w2 ⟨rfl, hb2⟩
 have HB2 := Lib.hid (HB.out.trans (hb2.mono HB.out.size))
 clear hb2 d0 d1 d2 d3 d4 d5 d6 d7 hol HC
 go_wp2_with fail
 go_ret
 exact ⟨rfl, HB2.out⟩

end Go.Proofs.YtmhpfmanagbggaaGreatDoor

namespace Go.Proofs.YtmhpfmanagbggaaGreatDoor
open Go Go.RowKit

theorem info_boolR : (Tryz.prog.info? 4).map (fun i => (i.zero, i.size, i.bytes)) = some (some (.bool false), 1, 1) := by kernel_rfl

theorem Mul_one (P : Nat) (w : World) (hP : P ≤ 1073741824) : Calls Tryz.prog 169 #[.int .u64 1, .int .u64 P] w fun e w' => e = .returned (.tuple #[.int .u64 0, .int .u64 P]) ∧ w = w' := by
 have := Tryz.bits_Mul 1 P (by decide) (by omega) w
 refine Calls.mono this ?_
 rintro e w' ⟨rfl, rfl⟩
 refine ⟨?_, rfl⟩
 rw [Nat.one_mul, Nat.div_eq_of_lt (by omega), Nat.mod_eq_of_lt (by omega)]
 rfl

theorem size_bool : (Tryz.prog.info? 4).map (·.size) = some 1 := by kernel_rfl

def halfB (n P : Nat) : List Value := List.replicate n (.bool true) ++ List.replicate (P - n) (.bool false)
theorem halfB_len {n P : Nat} (h : n ≤ P) : (halfB n P).length = P := by unfold halfB; simp; omega
theorem halfB_splice {n P m : Nat} (h : n + m ≤ P) : splice (halfB n P) n (List.replicate m (.bool true)) = halfB (n + m) P := by
 unfold splice halfB
 rw [List.take_append_of_le_length (by simp), List.take_of_length_le (by simp), List.drop_append]
 simp only [List.length_replicate, List.drop_replicate]
 rw [show n - (n + m) = 0 from by omega, List.replicate_zero, List.nil_append, ← List.append_assoc, List.replicate_append_replicate, show P - n - (n + m - n) = P - (n + m) from by omega]
theorem halfB_get {n P j : Nat} (h : j < n) : (halfB n P)[j]? = some (.bool true) := by
 unfold halfB
 rw [List.getElem?_append_left (by simpa using h), List.getElem?_replicate, if_pos h]

set_option maxRecDepth 100000 in
set_option maxHeartbeats 400000 in
theorem Repeat_any (P xb : Nat) (w : World) (h1 : 1 ≤ P) (h2 : P ≤ 40) (hx : w.cell? ⟨xb, 0, none⟩ = some (.bool true)) :
  Calls Tryz.prog 120 #[.slice (some ⟨xb, 0, none⟩) 1 1, .int .i64 P] w fun e w' => e = .returned (.slice (some ⟨w.heap.size, 0, none⟩) P P) ∧ Below w.heap.size w w' ∧ Blk w' w.heap.size (List.replicate P (.bool true)) 4 := by
 obtain ⟨i0, hi, hz0, hz1, hz2⟩ := info_parts info_boolR
 have hxl := World.block_lt_of_cell? _ _ hx
 go_enter Tryz.func120, Tryz.ntmps120
 go_wp2_with fail
 refine (Mul_one P _ (by omega)).mono ?_
 rintro e w' ⟨rfl, rfl⟩
 go_wp2_with (at_make; refine wpList_make_full _ rfl _ _ 59 rfl w.heap.size 4 i0 _ 1 Tryz.underlying59 hi hz0 hz1 .i64 .i64 _ _ P rfl rfl rfl rfl ?_ ?_ ?_ ?_)
 ·rw [hz2]; omega
 ·simp [maxLen]; omega
 ·exact Nat.le_refl _
 ·intro w1 ho hg
  rw [toList_madeCells_one] at ho
  have hb1 : Below w.heap.size w w1 := (Below.refl _ w).grown hg (Nat.le_refl _) (fun _ h => by cases h)
  have hB : Blk w1 w.heap.size (halfB 0 P) 4 := by
   obtain ⟨h0, ⟨e9, -⟩ | ⟨g9, cap, cur, e9, -, hh, hc, hm, hs, ht⟩⟩ := ho
   ·cases e9
   ·simp only [Value.slice.injEq, Option.some.injEq, Addr.mk.injEq, and_true, true_and] at e9
    obtain ⟨e9, rfl⟩ := e9
    subst e9
    unfold Blk halfB
    rw [hh]
    rw [List.take_of_length_le (by simp; omega)] at ht
    simp only [List.replicate_zero, List.nil_append, Nat.sub_zero]
    rw [← ht]
  have hx1 := keeps hb1 hxl hx
  clear hi hz0 hz1 hz2 i0 ho hg
  have HW1 := Lib.hid hb1
  have hB' : w1.heap[w.heap.size]? = some (.cells (halfB 0 P).toArray 4 (0, 0)) := hB
  clear hb1 hx
  go_wp2_with (with_reducible show wpList _ _ _ (⟨some 33, _, _, _, _, _⟩ :: _) _ _; go_loud (refine wpList_copy_splice rfl (.tmp 31) (.tmp 32) 59 59 rfl 4 Tryz.underlying59 size_bool _ _ _ _ _ _ rfl rfl w.heap.size 0 (halfB 0 P) 4 hB' [.bool true] ?c1 ?c2 ?c3 ?c4 w.heap.size w HW1.out (Nat.le_refl _) ?_))
  case c1 => show 1 = Nat.min 1 P; exact (Nat.min_eq_left h1).symm
  case c2 =>
   intro j v hj
   match j, hj with
   | 0, hj => simp at hj; subst hj; exact hx1
   | j + 1, hj => simp at hj
  case c3 => rw [halfB_len (by omega)]; simpa using h1
  case c4 => intro v hv; simp at hv; subst hv; rfl
  intro w2 HG2 hb2
  have hB2 : Blk w2 w.heap.size (halfB 1 P) 4 := by
   have := HG2.out
   rw [show ([.bool true] : List Value) = List.replicate 1 (.bool true) from rfl, halfB_splice (by omega)] at this
   rw [Nat.zero_add] at this
   exact this
  have HB2 := Lib.hid hb2
  have HBB2 := Lib.hid hB2
  clear HG2 hb2 hB hB' hB2 HW1 hx1
  go_wp2_with fail
  go_loopw [8] (fun i wr => ∃ n : Nat, 1 ≤ n ∧ n ≤ P ∧ i = .int .i64 n ∧ Below w.heap.size w wr ∧ Blk wr w.heap.size (halfB n P) 4) (fun i _ => P - (intOf i).toNat)
  case atStart => exact ⟨1, Nat.le_refl _, h1, rfl, HB2.out, HBB2.out⟩
  case round =>
   obtain ⟨n, hn1, hn, rfl, hb, hB⟩ := hrel
   have HB := Lib.hid hb
   clear HB2 HBB2 hb
   by_cases hlt : n < P
   ·have hlt' : (n : Int) < (P : Int) := by omega
    have hni : (n : Int) ≤ (P : Int) := by omega
    have hn0 : (0 : Int) ≤ (n : Int) := by omega
    obtain ⟨m, hm⟩ : ∃ m, m = min n (P - n) := ⟨_, rfl⟩
    have hmP : n + m ≤ P := by omega
    have hmn : m ≤ n := by omega
    have hm1 : 1 ≤ m := by omega
    have hB' : wr.drew.heap[w.heap.size]? = some (.cells (halfB n P).toArray 4 (0, 0)) := hB.below ((Below.refl _ _).drew)
    have hPn : ¬ P = n := by omega
    have HBD : Below w.heap.size w wr.drew := HB.out.drew
    have hrun := run_copy_row (P := Tryz.prog) wr.drew 59 59 3 4 w.heap.size n (P - n) (P - n) ⟨w.heap.size, 0, none⟩ n P (halfB n P).toArray 4 (List.replicate m (.bool true)) Tryz.underlying59 size_bool hB'
     (by rw [List.length_replicate]; exact hm) (fun j v hj => by
      rw [List.getElem?_replicate] at hj
      split at hj
      ·next hlt2 =>
       cases hj
       have : Blk wr.drew w.heap.size (halfB n P) 4 := hB'
       have := this.cell j (halfB_get (P := P) (show j < n by omega))
       rw [Lib.add_plain, Nat.zero_add]
       exact this
      ·cases hj) (by rw [List.length_replicate]; simp [halfB_len hn]; exact hmP) (fun v hv => by rw [List.eq_of_mem_replicate hv]; rfl)
    obtain ⟨W3, hW3⟩ : ∃ W3, W3 = wr.drew.setRow w.heap.size ((halfB n P).toArray.toList.take n ++ List.replicate m (Value.bool true) ++ (halfB n P).toArray.toList.drop (n + (List.replicate m (Value.bool true)).length)).toArray := ⟨_, rfl⟩
    rw [← hW3, List.length_replicate] at hrun
    have HB3 : Hid (Below w.heap.size w W3) := by unfold Hid; rw [hW3]; exact below_setRow HBD (Nat.le_refl _) _
    have HBK3 : Hid (Blk W3 w.heap.size (halfB (n + m) P) 4) := by
     unfold Hid
     rw [hW3, ← halfB_splice hmP]
     have := setRow_heap wr.drew w.heap.size _ ((halfB n P).toArray.toList.take n ++ List.replicate m (Value.bool true) ++ (halfB n P).toArray.toList.drop (n + (List.replicate m (Value.bool true)).length)).toArray 4 _ hB'
     unfold Blk
     simpa [splice] using this
    clear hW3 hB hB' HBD hm
    go_wp2_with fail
    go_region
    clear hrun
    go_wp2_with fail
    go_roundw
    case rel => exact ⟨n + m, by omega, hmP, by go_num, HB3.out, HBK3.out⟩
    case measure => simp [intOf]; omega
   ·obtain rfl : n = P := by omega
    go_wp2_with fail
    go_ret
    refine ⟨rfl, HB.out, ?_⟩
    unfold halfB at hB
    rw [Nat.sub_self, List.replicate_zero, List.append_nil] at hB
    exact hB

end Go.Proofs.YtmhpfmanagbggaaGreatDoor

namespace Go.Proofs.YtmhpfmanagbggaaGreatDoor
open Go Go.RowKit

def halfZ (z : Bool) (n P : Nat) : List Value := List.replicate n (.bool z) ++ List.replicate (P - n) (.bool false)
theorem halfZ_len {z : Bool} {n P : Nat} (h : n ≤ P) : (halfZ z n P).length = P := by unfold halfZ; simp; omega
theorem halfZ_splice {z : Bool} {n P m : Nat} (h : n + m ≤ P) : splice (halfZ z n P) n (List.replicate m (.bool z)) = halfZ z (n + m) P := by
 unfold splice halfZ
 rw [List.take_append_of_le_length (by simp), List.take_of_length_le (by simp), List.drop_append]
 simp only [List.length_replicate, List.drop_replicate]
 rw [show n - (n + m) = 0 from by omega, List.replicate_zero, List.nil_append, ← List.append_assoc, List.replicate_append_replicate, show P - n - (n + m - n) = P - (n + m) from by omega]
theorem halfZ_get {z : Bool} {n P j : Nat} (h : j < n) : (halfZ z n P)[j]? = some (.bool z) := by
 unfold halfZ
 rw [List.getElem?_append_left (by simpa using h), List.getElem?_replicate, if_pos h]

set_option maxRecDepth 100000 in
set_option maxHeartbeats 400000 in
theorem RepeatZ_any (z : Bool) (P xb : Nat) (w : World) (h1 : 1 ≤ P) (h2 : P ≤ 40) (hx : w.cell? ⟨xb, 0, none⟩ = some (.bool z)) :
  Calls Tryz.prog 120 #[.slice (some ⟨xb, 0, none⟩) 1 1, .int .i64 P] w fun e w' => e = .returned (.slice (some ⟨w.heap.size, 0, none⟩) P P) ∧ Below w.heap.size w w' ∧ Blk w' w.heap.size (List.replicate P (.bool z)) 4 := by
 obtain ⟨i0, hi, hz0, hz1, hz2⟩ := info_parts info_boolR
 have hxl := World.block_lt_of_cell? _ _ hx
 go_enter Tryz.func120, Tryz.ntmps120
 go_wp2_with fail
 refine (Mul_one P _ (by omega)).mono ?_
 rintro e w' ⟨rfl, rfl⟩
 go_wp2_with (at_make; refine wpList_make_full _ rfl _ _ 59 rfl w.heap.size 4 i0 _ 1 Tryz.underlying59 hi hz0 hz1 .i64 .i64 _ _ P rfl rfl rfl rfl ?_ ?_ ?_ ?_)
 ·rw [hz2]; omega
 ·simp [maxLen]; omega
 ·exact Nat.le_refl _
 ·intro w1 ho hg
  rw [toList_madeCells_one] at ho
  have hb1 : Below w.heap.size w w1 := (Below.refl _ w).grown hg (Nat.le_refl _) (fun _ h => by cases h)
  have hB : Blk w1 w.heap.size (halfZ z 0 P) 4 := by
   obtain ⟨h0, ⟨e9, -⟩ | ⟨g9, cap, cur, e9, -, hh, hc, hm, hs, ht⟩⟩ := ho
   ·cases e9
   ·simp only [Value.slice.injEq, Option.some.injEq, Addr.mk.injEq, and_true, true_and] at e9
    obtain ⟨e9, rfl⟩ := e9
    subst e9
    unfold Blk halfZ
    rw [hh]
    rw [List.take_of_length_le (by simp; omega)] at ht
    simp only [List.replicate_zero, List.nil_append, Nat.sub_zero]
    rw [← ht]
  have hx1 := keeps hb1 hxl hx
  clear hi hz0 hz1 hz2 i0 ho hg
  have HW1 := Lib.hid hb1
  have hB' : w1.heap[w.heap.size]? = some (.cells (halfZ z 0 P).toArray 4 (0, 0)) := hB
  clear hb1 hx
  go_wp2_with (with_reducible show wpList _ _ _ (⟨some 33, _, _, _, _, _⟩ :: _) _ _; go_loud (refine wpList_copy_splice rfl (.tmp 31) (.tmp 32) 59 59 rfl 4 Tryz.underlying59 size_bool _ _ _ _ _ _ rfl rfl w.heap.size 0 (halfZ z 0 P) 4 hB' [.bool z] ?c1 ?c2 ?c3 ?c4 w.heap.size w HW1.out (Nat.le_refl _) ?_))
  case c1 => show 1 = Nat.min 1 P; exact (Nat.min_eq_left h1).symm
  case c2 =>
   intro j v hj
   match j, hj with
   | 0, hj => simp at hj; subst hj; exact hx1
   | j + 1, hj => simp at hj
  case c3 => rw [halfZ_len (by omega)]; simpa using h1
  case c4 => intro v hv; simp at hv; subst hv; rfl
  intro w2 HG2 hb2
  have hB2 : Blk w2 w.heap.size (halfZ z 1 P) 4 := by
   have := HG2.out
   rw [show ([.bool z] : List Value) = List.replicate 1 (.bool z) from rfl, halfZ_splice (by omega)] at this
   rw [Nat.zero_add] at this
   exact this
  have HB2 := Lib.hid hb2
  have HBB2 := Lib.hid hB2
  clear HG2 hb2 hB hB' hB2 HW1 hx1
  go_wp2_with fail
  go_loopw [8] (fun i wr => ∃ n : Nat, 1 ≤ n ∧ n ≤ P ∧ i = .int .i64 n ∧ Below w.heap.size w wr ∧ Blk wr w.heap.size (halfZ z n P) 4) (fun i _ => P - (intOf i).toNat)
  case atStart => exact ⟨1, Nat.le_refl _, h1, rfl, HB2.out, HBB2.out⟩
  case round =>
   obtain ⟨n, hn1, hn, rfl, hb, hB⟩ := hrel
   have HB := Lib.hid hb
   clear HB2 HBB2 hb
   by_cases hlt : n < P
   ·have hlt' : (n : Int) < (P : Int) := by omega
    have hni : (n : Int) ≤ (P : Int) := by omega
    have hn0 : (0 : Int) ≤ (n : Int) := by omega
    obtain ⟨m, hm⟩ : ∃ m, m = min n (P - n) := ⟨_, rfl⟩
    have hmP : n + m ≤ P := by omega
    have hmn : m ≤ n := by omega
    have hm1 : 1 ≤ m := by omega
    have hB' : wr.drew.heap[w.heap.size]? = some (.cells (halfZ z n P).toArray 4 (0, 0)) := hB.below ((Below.refl _ _).drew)
    have hPn : ¬ P = n := by omega
    have HBD : Below w.heap.size w wr.drew := HB.out.drew
    have hrun := run_copy_row (P := Tryz.prog) wr.drew 59 59 3 4 w.heap.size n (P - n) (P - n) ⟨w.heap.size, 0, none⟩ n P (halfZ z n P).toArray 4 (List.replicate m (.bool z)) Tryz.underlying59 size_bool hB'
     (by rw [List.length_replicate]; exact hm) (fun j v hj => by
      rw [List.getElem?_replicate] at hj
      split at hj
      ·next hlt2 =>
       cases hj
       have : Blk wr.drew w.heap.size (halfZ z n P) 4 := hB'
       have := this.cell j (halfZ_get (P := P) (show j < n by omega))
       rw [Lib.add_plain, Nat.zero_add]
       exact this
      ·cases hj) (by rw [List.length_replicate]; simp [halfZ_len hn]; exact hmP) (fun v hv => by rw [List.eq_of_mem_replicate hv]; rfl)
    obtain ⟨W3, hW3⟩ : ∃ W3, W3 = wr.drew.setRow w.heap.size ((halfZ z n P).toArray.toList.take n ++ List.replicate m (Value.bool z) ++ (halfZ z n P).toArray.toList.drop (n + (List.replicate m (Value.bool z)).length)).toArray := ⟨_, rfl⟩
    rw [← hW3, List.length_replicate] at hrun
    have HB3 : Hid (Below w.heap.size w W3) := by unfold Hid; rw [hW3]; exact below_setRow HBD (Nat.le_refl _) _
    have HBK3 : Hid (Blk W3 w.heap.size (halfZ z (n + m) P) 4) := by
     unfold Hid
     rw [hW3, ← halfZ_splice hmP]
     have := setRow_heap wr.drew w.heap.size _ ((halfZ z n P).toArray.toList.take n ++ List.replicate m (Value.bool z) ++ (halfZ z n P).toArray.toList.drop (n + (List.replicate m (Value.bool z)).length)).toArray 4 _ hB'
     unfold Blk
     simpa [splice] using this
    clear hW3 hB hB' HBD hm
    go_wp2_with fail
    go_region
    clear hrun
    go_wp2_with fail
    go_roundw
    case rel => exact ⟨n + m, by omega, hmP, by go_num, HB3.out, HBK3.out⟩
    case measure => simp [intOf]; omega
   ·obtain rfl : n = P := by omega
    go_wp2_with fail
    go_ret
    refine ⟨rfl, HB.out, ?_⟩
    unfold halfZ at hB
    rw [Nat.sub_self, List.replicate_zero, List.append_nil] at hB
    exact hB

end Go.Proofs.YtmhpfmanagbggaaGreatDoor

namespace Go.Proofs.YtmhpfmanagbggaaGreatDoor
open Go Go.RowKit

def rowV (P b : Nat) : Value := .slice (some ⟨b, 0, none⟩) P P

/-- The rows that are built so far. -/
structure BuildInv (w : World) (g bm S P : Nat) (gs : List Nat) (wr : World) : Prop where
 below : Below w.heap.size w wr
 box : Blk wr bm [.slice (some ⟨g, 0, none⟩) S S] 72
 rows : Blk wr g (gs.map (rowV P) ++ List.replicate (S - gs.length) (.slice none 0 0)) 59
 nodup : gs.Nodup
 own : ∀ x ∈ gs, w.heap.size ≤ x
 row : ∀ x ∈ gs, Blk wr x (List.replicate P (.bool true)) 4

theorem BuildInv.next {w wr W w3 : World} {g bm S P : Nat} {gs : List Nat} (h : BuildInv w g bm S P gs wr) (hk : gs.length < S) (hg : w.heap.size ≤ g) (hW : Below wr.heap.size wr W) (h3 : Below W.heap.size W w3) (hr : Blk w3 W.heap.size (List.replicate P (.bool true)) 4) :
  BuildInv w g bm S P (gs ++ [W.heap.size]) (w3.setCell ⟨g, gs.length, none⟩ (rowV P W.heap.size)) := by
 have hwr3 : Below wr.heap.size wr w3 := hW.trans (h3.mono hW.size)
 have hgl := h.rows.lt
 have hbl := h.box.lt
 have hnb : wr.heap.size ≤ W.heap.size := hW.size
 have hgb : bm ≠ g := by
  intro e
  have h1 := h.box
  have h2 := h.rows
  unfold Blk at h1 h2
  rw [e, h2] at h1
  simp at h1
 refine ⟨(h.below.trans (hwr3.mono h.below.size)).setCell hg _, (h.box.below hwr3).setOther _ _ hgb, ?_, ?_, ?_, ?_⟩
 ·have := (h.rows.below hwr3).set gs.length (rowV P W.heap.size)
  rw [List.set_append_right _ _ (by simp), List.length_map, Nat.sub_self, show S - gs.length = (S - (gs.length + 1)) + 1 from by omega, List.replicate_succ, List.set_cons_zero] at this
  rw [List.map_append, List.append_assoc, List.length_append]
  exact this
 ·rw [List.nodup_append]
  refine ⟨h.nodup, by simp, fun a ha b hb => ?_⟩
  simp at hb
  subst hb
  have := (h.row a ha).lt
  omega
 ·intro x hx
  rcases List.mem_append.1 hx with hx | hx
  ·exact h.own x hx
  ·simp at hx
   subst hx
   have := h.below.size
   omega
 ·intro x hx
  rcases List.mem_append.1 hx with hx | hx
  ·have hxl := (h.row x hx).lt
   refine ((h.row x hx).below hwr3).setOther _ _ ?_
   intro e
   have e : x = g := e
   have h1 := h.row x hx
   have h2 := h.rows
   unfold Blk at h1 h2
   rw [e, h2] at h1
   simp at h1
  ·simp at hx
   subst hx
   exact hr.setOther _ _ (by show W.heap.size ≠ g; omega)

theorem BuildInv.mat {w wr : World} {g bm S P : Nat} {gs : List Nat} (h : BuildInv w g bm S P gs wr) (hk : gs.length = S) : Mat wr bm S P (List.replicate (S * P) true) g gs := by
 refine ⟨h.box, ?_, hk, h.nodup, by simp, fun x hx => ?_⟩
 ·have := h.rows
  rw [hk, Nat.sub_self, List.replicate_zero, List.append_nil] at this
  exact this
 ·have h1 := h.row gs[x] (List.getElem_mem _)
  have hp : x * P + P ≤ S * P := by
   have := Nat.mul_le_mul_right P (show x + 1 ≤ S by omega)
   rw [Nat.succ_mul] at this
   exact this
  rw [List.drop_replicate, List.take_replicate, Nat.min_eq_left (by omega), List.map_replicate]
  exact h1

/-- The matrix at which the sweeps come to rest. -/
def MadeMat (t p : Lts) (S P : Nat) (w : World) (e : Ending) (w' : World) : Prop :=
 ∃ (c : List Bool) (bm g : Nat) (gs : List Nat), e = .returned (.slice (some ⟨g, 0, none⟩) S S) ∧ Below w.heap.size w w' ∧ Mat w' bm S P c g gs ∧ Rest t p (List.replicate (S * P) true) c

structure SweepRel (S P bm g : Nat) (gs : List Nat) (w wr : World) (c0 c : List Bool) (b : Bool) : Prop where
 less : Less c0 c b
 below : Below w.heap.size w wr
 mat : Mat wr bm S P c g gs

structure RoundRel (t p : Lts) (S P bm g : Nat) (gs : List Nat) (w wr : World) (gk : Nat) (b : Bool) (c : List Bool) : Prop where
 iter : ∃ n, c = sweeps t p n (List.replicate (S * P) true)
 rest : b = false → sweepB t p c = c
 left : 2 * c.count true + b.toNat ≤ gk
 below : Below w.heap.size w wr
 mat : Mat wr bm S P c g gs

theorem cell_set_other {w : World} {p : Addr} {u : Value} {b o : Nat} (h : b ≠ p.block) : (w.setCell p u).cell? ⟨b, o, none⟩ = w.cell? ⟨b, o, none⟩ :=
 World.cell?_of_block (heap_setCell_other w p b u h)

theorem BuildInv.apart {w wr : World} {g bm S P : Nat} {gs : List Nat} (h : BuildInv w g bm S P gs wr) : bm ≠ g := by
 intro e
 have h1 := h.box
 have h2 := h.rows
 unfold Blk at h1 h2
 rw [e, h2] at h1
 simp at h1

theorem info_bools : (Tryz.prog.info? 59).map (fun i => (i.zero, i.size, i.bytes)) = some (some (.slice none 0 0), 1, 24) := by kernel_rfl

set_option maxRecDepth 100000 in
set_option maxHeartbeats 4000000 in
theorem settle_any (lo ob S P : Nat) (t p : Lts) (lv ev lv2 ev2 : Value) (w : World) (hO : Both lo S P t p lv ev lv2 ev2 w)
  (hob : Blk w ob [.int .i64 t.states, .int .i64 t.initial, lv, ev, .int .i64 p.states, .int .i64 p.initial, lv2, ev2] 51) :
  Calls Tryz.prog 95 #[.agg #[.int .i64 t.states, .int .i64 t.initial, lv, ev, .int .i64 p.states, .int .i64 p.initial, lv2, ev2], .bool true, .func (.func 99) #[] #[.pointer (some ⟨ob, 0, none⟩)]] w (MadeMat t p S P w) := by
 have hS1 : 1 ≤ S := by have := hO.vt.st0; have := hO.hS; omega
 have hS2 : S ≤ 40 := by have := hO.vt.st1; have := hO.hS; omega
 have hP1 : 1 ≤ P := by have := hO.vp.st0; have := hO.hP; omega
 have hP2 : P ≤ 40 := by have := hO.vp.st1; have := hO.hP; omega
 have HOO := Lib.hid hO
 have HOB := Lib.hid hob
 have hobl := hob.lt
 have hS := hO.hS
 have hP := hO.hP
 rw [← hS, ← hP]
 have HSS := Lib.hid hS
 have HPP := Lib.hid hP
 obtain ⟨i0, hi, hz0, hz1, hz2⟩ := info_parts info_bools
 obtain ⟨w1, hw1⟩ : ∃ w1, w1 = w.alloc (.cells #[.int .i64 S, .int .i64 t.initial, lv, ev, .int .i64 P, .int .i64 p.initial, lv2, ev2] 51) := ⟨_, rfl⟩
 have hB1 : Below w.heap.size w w1 := by rw [hw1]; exact box_below _ _ _
 have hz1' : w1.heap.size = w.heap.size + 1 := by rw [hw1]; simp
 have hbx : Blk w1 w.heap.size [.int .i64 S, .int .i64 t.initial, lv, ev, .int .i64 P, .int .i64 p.initial, lv2, ev2] 51 := by rw [hw1]; exact Blk.new w _ _
 have x0 := hbx.cell 0 rfl
 have HW1 := Lib.hid hw1
 have HB1 := Lib.hid hB1
 have HBX := Lib.hid hbx
 have hgw : w.heap.size ≤ w1.heap.size := by omega
 have hgl : w.heap.size < w1.heap.size := by omega
 clear hO hob hS hP hw1 hB1 hbx hz1'
 go_enter Tryz.func95, Tryz.ntmps95
 go_wp2_with (at_make; rw [← HW1.out]; refine wpList_make_full _ rfl _ _ 72 rfl w1.heap.size 59 i0 _ 1 Tryz.underlying72 hi hz0 hz1 .i64 .i64 _ _ S rfl rfl rfl rfl ?_ ?_ ?_ ?_)
 ·rw [hz2]; omega
 ·simp [maxLen]; omega
 ·exact Nat.le_refl _
 intro w2 ho hg
 rw [toList_madeCells_one] at ho
 have hb2 : Below w1.heap.size w1 w2 := (Below.refl _ w1).grown hg (Nat.le_refl _) (fun _ h => by cases h)
 have hB : Blk w2 w1.heap.size (List.replicate S (.slice none 0 0)) 59 := by
  obtain ⟨h0, ⟨e9, -⟩ | ⟨g9, cap, cur, e9, -, hh, hc, hm, hs, ht⟩⟩ := ho
  ·cases e9
  ·simp only [Value.slice.injEq, Option.some.injEq, Addr.mk.injEq, and_true, true_and] at e9
   obtain ⟨e9, rfl⟩ := e9
   subst e9
   unfold Blk
   rw [hh]
   rw [List.take_of_length_le (by simp; omega)] at ht
   rw [← ht]
 have HBX2 := Lib.hid (HBX.out.below hb2)
 have HB2 : Hid (Below w.heap.size w w2) := HB1.out.trans (hb2.mono HB1.out.size)
 obtain ⟨g, hgg⟩ : ∃ g, g = w1.heap.size := ⟨_, rfl⟩
 rw [← hgg] at hB hgw hgl ⊢
 have HBB := Lib.hid hB
 clear hi hz0 hz1 hz2 i0 ho hg hb2 hB x0 HBX HW1 HB1 hgg
 obtain ⟨w3, hw3⟩ : ∃ w3, w3 = w2.alloc (.cells #[.slice (some ⟨g, 0, none⟩) S S] 72) := ⟨_, rfl⟩
 obtain ⟨bm, hbm⟩ : ∃ bm, bm = w2.heap.size := ⟨_, rfl⟩
 have HBI : Hid (BuildInv w g bm S P [] w3) := by
  rw [hw3, hbm]
  exact ⟨HB2.out.alloc HB2.out.size _, Blk.new w2 _ _, by simpa using HBB.out.alloc _, List.nodup_nil, fun x hx => (by cases hx), fun x hx => (by cases hx)⟩
 have HBX3 : Hid (Blk w3 w.heap.size [.int .i64 S, .int .i64 t.initial, lv, ev, .int .i64 P, .int .i64 p.initial, lv2, ev2] 51) := by rw [hw3]; exact HBX2.out.alloc _
 have HW3 := Lib.hid hw3
 have HBM := Lib.hid hbm
 clear hw3 hbm HBX2 HB2 HBB
 go_wp2_with fail
 rw [← HBM.out, ← HW3.out]
 clear HBM HW3
 go_loopw [19] (fun i wr => ∃ gs : List Nat, gs.length ≤ S ∧ i = .int .i64 gs.length ∧ BuildInv w g bm S P gs wr ∧ Blk wr w.heap.size [.int .i64 S, .int .i64 t.initial, lv, ev, .int .i64 P, .int .i64 p.initial, lv2, ev2] 51) (fun i _ => S - (intOf i).toNat)
 case atStart => exact ⟨[], Nat.zero_le _, rfl, HBI.out, HBX3.out⟩
 case round =>
  obtain ⟨gs, hk, rfl, hin, hbx⟩ := hrel
  clear HBI HBX3
  have HIN := Lib.hid hin
  have HBX := Lib.hid hbx
  have c1 := hin.box.cell 0 rfl
  have c2 := hbx.cell 4 rfl
  have hbl := hin.box.lt
  have hgr := hin.rows.lt
  have hxl := hbx.lt
  obtain ⟨k, hkk⟩ : ∃ k, k = gs.length := ⟨_, rfl⟩
  rw [← hkk] at hk ⊢
  by_cases hlt : k < S
  ·have c3 : wr.cell? ⟨g, k, none⟩ = some (.slice none 0 0) := hin.rows.cell k (by
    rw [List.getElem?_append_right (by simp; omega), List.getElem?_replicate, if_pos (by simp; omega)])
   have f3 := hin.rows.frozen k
   have hW : Below wr.heap.size wr ((wr.alloc (.cells #[.bool true] 4)).drew) := (box_below _ _ _).drew
   have hWs : ((wr.alloc (.cells #[.bool true] 4)).drew).heap.size = wr.heap.size + 1 := by simp
   have W1 := keeps hW hbl c1
   have W2 := keeps hW hxl c2
   have W3 := keeps hW hgr c3
   have W4 : ((wr.alloc (.cells #[.bool true] 4)).drew).frozen? ⟨g, k, none⟩ = false := (hW.frozen (p := ⟨g, k, none⟩) hgr).trans f3
   have HW := Lib.hid hW
   have HKK := Lib.hid hkk
   have hki : (k : Int) < (S : Int) := by omega
   have hne1 : bm ≠ g := hin.apart
   have hne2 : w.heap.size ≠ g := by omega
   clear hin hbx hW hkk
   go_wp2_with fail
   go_region_held3 (fun w' => w'.cell? ⟨bm, 0, none⟩ = some (.slice (some ⟨g, 0, none⟩) S S) ∧ w'.cell? ⟨w.heap.size, 4, none⟩ = some (.int .i64 P))
    (first
     | (refine ⟨?_, ?_⟩ <;> assumption)
     | (refine ⟨?_, ?_⟩ <;> (rw [cell_set_other (by first | exact hne1 | exact hne2)]; assumption))
     | go_keep)
    (first
     | (go_at_call 120; refine (Repeat_any P wr.heap.size _ hP1 hP2 (by simp)).mono ?_; rintro e w9 ⟨rfl, hb9, hB9⟩; have k1 := keeps hb9 (by simp; omega) W1; have k2 := keeps hb9 (by simp; omega) W2; have k3 := keeps hb9 (by simp; omega) W3; have k4 := (hb9.frozen (p := ⟨g, k, none⟩) (by simp; omega)).trans W4))
   have HN : Hid (BuildInv w g bm S P (gs ++ [wr.heap.size + 1]) (w9.setCell ⟨g, k, none⟩ (.slice (some ⟨wr.heap.size + 1, 0, none⟩) P P))) := by
    have := HIN.out.next (by rw [← HKK.out]; exact hlt) hgw HW.out hb9 hB9
    rw [← HKK.out, hWs] at this
    exact this
   have HBX9 : Hid (Blk (w9.setCell ⟨g, k, none⟩ (.slice (some ⟨wr.heap.size + 1, 0, none⟩) P P)) w.heap.size [.int .i64 S, .int .i64 t.initial, lv, ev, .int .i64 P, .int .i64 p.initial, lv2, ev2] 51) :=
    (HBX.out.below (HW.out.trans (hb9.mono HW.out.size))).setOther _ _ hne2
   clear hb9 hB9 k1 k2 k3 k4 W1 W2 W3 W4 hWs c1 c2 c3 f3 HW
   go_wp2_with fail
   go_roundw
   case rel => exact ⟨gs ++ [wr.heap.size + 1], by have := HKK.out; simp; omega, by have := HKK.out; rw [List.length_append, ← this]; go_num, HN.out, HBX9.out⟩
   case measure => simp [intOf]; omega
  ·obtain rfl : k = S := by omega
   have HM0 := Lib.hid (hin.mat hkk.symm)
   have HBL := Lib.hid hin.below
   have HGS := Lib.hid hin.own
   clear hin hbx HIN HBX c1 c2 hbl hgr hxl hkk hk hlt
   go_wp2_with fail
   go_loopg [10] (2 * (k * P) + 1) (fun gk v10 wr => ∃ (c : List Bool) (b : Bool), v10 = .bool b ∧ RoundRel t p k P bm g gs w wr gk b c)
   case atStart => exact ⟨List.replicate (k * P) true, true, rfl, ⟨0, rfl⟩, (fun h => by cases h), by simp, HBL.out, HM0.out⟩
   case round =>
    obtain ⟨c, b, rfl, hrel⟩ := hrel
    have HR := Lib.hid hrel
    have m0 := hrel.mat.box.cell 0 rfl
    clear hrel HM0 HBL
    cases b
    ·go_wp2_with fail
     go_ret
     exact ⟨c, bm, g, gs, rfl, HR.out.below, HR.out.mat, HR.out.iter, HR.out.rest rfl⟩
    ·go_wp2_with fail
     go_loopw [10, 36] (fun v10 v36 wr => ∃ (x : Nat) (b : Bool), v10 = .bool b ∧ v36 = .int .i64 x ∧ x ≤ k ∧ SweepRel k P bm g gs w wr c (sweepTo t p x c) b) (fun _ v36 _ => k - (intOf v36).toNat)
     case atStart => exact ⟨0, false, rfl, rfl, Nat.zero_le _, Less.refl _, HR.out.below, HR.out.mat⟩
     case round =>
      obtain ⟨x, b, rfl, rfl, hxk, hin⟩ := hrel
      have HI := Lib.hid hin
      clear m0
      by_cases hlt : x < k
      ·have m1 := hin.mat.box.cell 0 rfl
       have hx : x < gs.length := by rw [hin.mat.len]; exact hlt
       have m2 := hin.mat.rowCell x hx
       obtain ⟨rb, hrb⟩ : ∃ rb, rb = gs[x] := ⟨_, rfl⟩
       rw [← hrb] at m2
       have HRB := Lib.hid hrb
       generalize hck : sweepTo t p x c = ck at *
       have HCK := Lib.hid hck
       have hxi : (x : Int) < (k : Int) := by omega
       have hrown : w.heap.size ≤ rb := by rw [hrb]; exact HGS.out _ (List.getElem_mem _)
       clear hck hin hrb
       go_wp2_with fail
       clear m1 m2
       go_loopw [10, 44] (fun v10 v44 wr => ∃ (q : Nat) (b : Bool), v10 = .bool b ∧ v44 = .int .i64 q ∧ q ≤ P ∧ SweepRel k P bm g gs w wr c (rowTo t p x q ck) b) (fun _ v44 _ => P - (intOf v44).toNat)
       case atStart => exact ⟨0, b, rfl, rfl, Nat.zero_le _, by rw [rowTo_zero]; exact HI.out⟩
       case round =>
        obtain ⟨q, b4, rfl, rfl, hqP, hin4⟩ := hrel
        have HI4 := Lib.hid hin4
        clear HI
        by_cases hq : q < P
        ·have n1 := hin4.mat.box.cell 0 rfl
         have n2 := hin4.mat.rowCell x hx
         have n3 := hin4.mat.cell x q hx hq
         rw [← HRB.out] at n2 n3
         have hqi : (q : Int) < (P : Int) := by omega
         have HIX : Hid (idx p x q = x * P + q) := idx_nat HPP.out x q
         generalize hcq : rowTo t p x q ck = cq at *
         have HS1 : Hid (rowTo t p x (q + 1) ck = stepB t p x q cq) := by unfold Hid; rw [rowTo_succ, hcq]
         have HCQ := Lib.hid hcq
         clear hcq hin4
         cases hcg : cq.getD (x * P + q) false
         ·have HST : Hid (stepB t p x q cq = cq) := stepB_no1 (by rw [HIX.out]; exact hcg)
          rw [hcg] at n3
          clear hcg
          go_wp2_with fail
          go_roundw
          case rel => exact ⟨q + 1, b4, rfl, by go_num, by omega, by rw [HS1.out, HST.out]; exact HI4.out⟩
          case measure => simp [intOf]; omega
         ·rw [hcg] at n3
          have HCG := Lib.hid hcg
          clear hcg
          go_wp2_with fail
          refine (stay1_any lo ob bm k P cq g gs t p lv ev lv2 ev2 x q _ (HOO.out.below HI4.out.below) HI4.out.mat (by omega) hqi (HOB.out.below HI4.out.below)).mono ?_
          rintro e w6 ⟨rfl, hb6⟩
          have HM6 := Lib.hid (HI4.out.mat.below hb6)
          have HB6 := Lib.hid (HI4.out.below.trans (hb6.mono HI4.out.below.size))
          have d1 := HM6.out.box.cell 0 rfl
          have d2 := HM6.out.rowCell x hx
          have d3 := HM6.out.cell x q hx hq
          have d4 := (HM6.out.row x hx).frozen q
          rw [← HRB.out] at d2 d3 d4
          rw [HCG.out] at d3
          clear n1 n2 n3 hb6
          cases hem : (outOf t x).isEmpty
          ·cases hgo : goesB t p cq (outOf t x) q
           ·have HST : Hid (stepB t p x q cq = cq.set (x * P + q) false) := by
             unfold Hid
             rw [stepB_set (by rw [HIX.out]; exact HCG.out) hem hgo, HIX.out]
            have HM7 : Hid (Mat (w6.setCell ⟨rb, q, none⟩ (.bool false)) bm k P (cq.set (x * P + q) false) g gs) := by
             rw [HRB.out]
             exact HM6.out.set x q hx hq false
            have HB7 : Hid (Below w.heap.size w (w6.setCell ⟨rb, q, none⟩ (.bool false))) := HB6.out.setCell hrown _
            have HL7 : Hid (Less c (cq.set (x * P + q) false) true) := HI4.out.less.set HCG.out
            clear hem hgo
            go_wp2_with fail
            go_roundw
            case rel => exact ⟨q + 1, true, rfl, by go_num, by omega, by rw [HS1.out, HST.out]; exact ⟨HL7.out, HB7.out, HM7.out⟩⟩
            case measure => simp [intOf]; omega
           ·have HST : Hid (stepB t p x q cq = cq) := stepB_no3 hgo
            clear hem hgo
            go_wp2_with fail
            go_roundw
            case rel => exact ⟨q + 1, b4, rfl, by go_num, by omega, by rw [HS1.out, HST.out]; exact ⟨HI4.out.less, HB6.out, HM6.out⟩⟩
            case measure => simp [intOf]; omega
          ·have HST : Hid (stepB t p x q cq = cq) := stepB_no2 hem
           clear hem
           go_wp2_with fail
           go_roundw
           case rel => exact ⟨q + 1, b4, rfl, by go_num, by omega, by rw [HS1.out, HST.out]; exact ⟨HI4.out.less, HB6.out, HM6.out⟩⟩
           case measure => simp [intOf]; omega
        ·obtain rfl : P = q := by omega
         clear hin4
         go_wp2_with fail
         go_roundw
         case rel => exact ⟨x + 1, b4, rfl, by go_num, by omega, by rw [sweepTo_succ, ← HPP.out, Int.toNat_natCast, HCK.out]; exact HI4.out⟩
         case measure => simp [intOf]; omega
      ·obtain rfl : k = x := by omega
       have hsw : sweepTo t p k c = sweepB t p c := by unfold sweepB; rw [← HSS.out, Int.toNat_natCast]
       rw [hsw] at HI
       clear hsw hin
       go_wp2_with fail
       go_roundg (2 * (sweepB t p c).count true + b.toNat)
       case measure =>
        have h1 := HR.out.left
        rcases HI.out.less.2 with ⟨rfl, h2⟩ | ⟨rfl, h2⟩
        ·simp only [Bool.toNat_true] at *; omega
        ·rw [h2]; simp only [Bool.toNat_true, Bool.toNat_false] at *; omega
       case rel =>
        obtain ⟨n, hn⟩ := HR.out.iter
        exact ⟨sweepB t p c, b, rfl, ⟨n + 1, by rw [sweeps_succ, ← hn]⟩, (fun h => by
         rcases HI.out.less.2 with ⟨h1, -⟩ | ⟨-, h1⟩
         ·rw [h1] at h; cases h
         ·rw [h1, h1]), Nat.le_refl _, HI.out.below, HI.out.mat⟩

end Go.Proofs.YtmhpfmanagbggaaGreatDoor
