/-
  The program's settle for the pairs that can leave.
  The program's stay.
  The verdict for states of a model and a state of a property. Plain.
  The library's slices.IndexFunc and slices.ContainsFunc at a slice of numbers, with a function that may lay blocks of its own.
  The program's judge and its verdict.
  The program's judge: both matrices.
  A system of the call's own: how it lies in memory.
  Monitors: a deterministic system with a verdict for each state; its memory. Plain.
  MakeMonitor: the search over pairs, and what is returned. Plain.
-/
import Derived.Test.YtmhpfmanagbggaaGreatDoorK15
import Derived.Test.YtmhpfmanagbggaaGreatDoorK3
import Derived.Test.YtmhpfmanagbggaaGreatDoorProg
import Derived.Test.YtmhpfmanagbggaaGreatDoorK1
import Derived.Test.YtmhpfmanagbggaaGreatDoorK6
import Derived.Deep.RegionHeld3
import Derived.Test.YtmhpfmanagbggaaGreatDoorK2
import Derived.Test.YtmhpfmanagbggaaGreatDoorK11
import Derived.Test.YtmhpfmanagbggaaGreatDoorK14
import Derived.Test.YtmhpfmanagbggaaGreatDoorK5
namespace Go.Proofs.YtmhpfmanagbggaaGreatDoor
open Go Go.RowKit

/-- The rows that are built so far. -/
structure BuildF (w : World) (g bm S P : Nat) (gs : List Nat) (wr : World) : Prop where
 below : Below w.heap.size w wr
 box : Blk wr bm [.slice (some ⟨g, 0, none⟩) S S] 72
 rows : Blk wr g (gs.map (rowV P) ++ List.replicate (S - gs.length) (.slice none 0 0)) 59
 nodup : gs.Nodup
 own : ∀ x ∈ gs, w.heap.size ≤ x
 row : ∀ x ∈ gs, Blk wr x (List.replicate P (.bool false)) 4

theorem BuildF.next {w wr W w3 : World} {g bm S P : Nat} {gs : List Nat} (h : BuildF w g bm S P gs wr) (hk : gs.length < S) (hg : w.heap.size ≤ g) (hW : Below wr.heap.size wr W) (h3 : Below W.heap.size W w3) (hr : Blk w3 W.heap.size (List.replicate P (.bool false)) 4) :
  BuildF w g bm S P (gs ++ [W.heap.size]) (w3.setCell ⟨g, gs.length, none⟩ (rowV P W.heap.size)) := by
 have hwr3 : Below wr.heap.size wr w3 := hW.trans (h3.mono hW.size)
 have hgl := h.rows.lt
 have hbl := h.box.lt
 have hnb : wr.heap.size ≤ W.heap.size := hW.size
 have hgb : bm ≠ g := by
  intro e
  have h1 := h.box
  have h2 := h.rows
  unfold Blk at h1 h2
  rw [e, h2] at h1
  simp at h1
 refine ⟨(h.below.trans (hwr3.mono h.below.size)).setCell hg _, (h.box.below hwr3).setOther _ _ hgb, ?_, ?_, ?_, ?_⟩
 ·have := (h.rows.below hwr3).set gs.length (rowV P W.heap.size)
  rw [List.set_append_right _ _ (by simp), List.length_map, Nat.sub_self, show S - gs.length = (S - (gs.length + 1)) + 1 from by omega, List.replicate_succ, List.set_cons_zero] at this
  rw [List.map_append, List.append_assoc, List.length_append]
  exact this
 ·rw [List.nodup_append]
  refine ⟨h.nodup, by simp, fun a ha b hb => ?_⟩
  simp at hb
  subst hb
  have := (h.row a ha).lt
  omega
 ·intro x hx
  rcases List.mem_append.1 hx with hx | hx
  ·exact h.own x hx
  ·simp at hx
   subst hx
   have := h.below.size
   omega
 ·intro x hx
  rcases List.mem_append.1 hx with hx | hx
  ·have hxl := (h.row x hx).lt
   refine ((h.row x hx).below hwr3).setOther _ _ ?_
   intro e
   have e : x = g := e
   have h1 := h.row x hx
   have h2 := h.rows
   unfold Blk at h1 h2
   rw [e, h2] at h1
   simp at h1
  ·simp at hx
   subst hx
   exact hr.setOther _ _ (by show W.heap.size ≠ g; omega)

theorem BuildF.mat {w wr : World} {g bm S P : Nat} {gs : List Nat} (h : BuildF w g bm S P gs wr) (hk : gs.length = S) : Mat wr bm S P (List.replicate (S * P) false) g gs := by
 refine ⟨h.box, ?_, hk, h.nodup, by simp, fun x hx => ?_⟩
 ·have := h.rows
  rw [hk, Nat.sub_self, List.replicate_zero, List.append_nil] at this
  exact this
 ·have h1 := h.row gs[x] (List.getElem_mem _)
  have hp : x * P + P ≤ S * P := by
   have := Nat.mul_le_mul_right P (show x + 1 ≤ S by omega)
   rw [Nat.succ_mul] at this
   exact this
  rw [List.drop_replicate, List.take_replicate, Nat.min_eq_left (by omega), List.map_replicate]
  exact h1

/-- The matrix of the pairs that can leave. -/
def MadeMatL (t p : Lts) (S P : Nat) (w : World) (e : Ending) (w' : World) : Prop :=
 ∃ (c : List Bool) (bm g : Nat) (gs : List Nat), e = .returned (.slice (some ⟨g, 0, none⟩) S S) ∧ Below w.heap.size w w' ∧ Mat w' bm S P c g gs ∧ LvIs t p c ∧ (∀ x ∈ gs, w.heap.size ≤ x) ∧ w.heap.size ≤ g

/-- Nothing is to be marked in a row. -/
def calmRow (t p : Lts) (c : List Bool) (x n : Nat) : Prop := ∀ q : Nat, q < n → goesLv t p c (outOf t x) q = true → c.getD (idx p x q) false = true
structure SweepLv (t p : Lts) (S P bm g : Nat) (gs : List Nat) (w wr : World) (c0 c : List Bool) (b : Bool) (x n : Nat) : Prop where
 more : More c0 c b
 sound : LvSound t p c
 calm : b = false → ∀ y : Nat, y < x → calmRow t p c y P
 here : b = false → calmRow t p c x n
 below : Below w.heap.size w wr
 mat : Mat wr bm S P c g gs

structure RoundLv (t p : Lts) (S P bm g : Nat) (gs : List Nat) (w wr : World) (gk : Nat) (b : Bool) (c : List Bool) : Prop where
 sound : LvSound t p c
 rest : b = false → ∀ y : Nat, y < S → calmRow t p c y P
 left : 2 * c.count false + b.toNat ≤ gk
 below : Below w.heap.size w wr
 mat : Mat wr bm S P c g gs
theorem calm_closed {t p : Lts} {c : List Bool} {S P : Nat} (hv : Valid t) (hS : (S : Int) = t.states) (hP : (P : Int) = p.states) (h : ∀ y : Nat, y < S → calmRow t p c y P) : LvClosed t p c := by
 intro e he q hq hl
 obtain ⟨i, hi, hie⟩ := List.mem_iff_getElem.1 he
 have hok := hv.edge i hi
 rw [hie] at hok
 obtain ⟨s, hs⟩ : ∃ s : Nat, (s : Int) = e.src := ⟨e.src.toNat, by have := hok.s0; omega⟩
 have h1 := h s (by have := hok.s1; omega) q (by omega)
 rw [hs] at h1
 refine h1 ?_
 unfold goesLv
 rw [List.any_eq_true]
 exact ⟨e, List.mem_filter.2 ⟨he, by simp⟩, hl⟩
theorem LvSound.row {t p : Lts} (ht : Valid t) (hp : Valid p) {c : List Bool} (h : LvSound t p c) {x q : Nat} (hq : (q : Int) < p.states) (hb : goesLv t p c (outOf t x) q = true) : LvSound t p (c.set (idx p x q) true) := by
 unfold goesLv at hb
 rw [List.any_eq_true] at hb
 obtain ⟨e, he, hl⟩ := hb
 obtain ⟨h1, h2⟩ := List.mem_filter.1 he
 have h3 : e.src = (x : Int) := by simpa using h2
 rw [← h3]
 exact h.set ht hp h1 hq hl

theorem BuildF.apart {w wr : World} {g bm S P : Nat} {gs : List Nat} (h : BuildF w g bm S P gs wr) : bm ≠ g := by
 intro e
 have h1 := h.box
 have h2 := h.rows
 unfold Blk at h1 h2
 rw [e, h2] at h1
 simp at h1

theorem info_boolsL : (Tryz.prog.info? 59).map (fun i => (i.zero, i.size, i.bytes)) = some (some (.slice none 0 0), 1, 24) := by kernel_rfl

set_option maxRecDepth 100000 in
set_option maxHeartbeats 4000000 in
theorem settleL_any (lo ob S P : Nat) (t p : Lts) (lv ev lv2 ev2 : Value) (w : World) (hO : Both lo S P t p lv ev lv2 ev2 w)
  (hob : Blk w ob [.int .i64 t.states, .int .i64 t.initial, lv, ev, .int .i64 p.states, .int .i64 p.initial, lv2, ev2] 51) :
  Calls Tryz.prog 95 #[.agg #[.int .i64 t.states, .int .i64 t.initial, lv, ev, .int .i64 p.states, .int .i64 p.initial, lv2, ev2], .bool false, .func (.func 96) #[] #[.pointer (some ⟨ob, 0, none⟩)]] w (MadeMatL t p S P w) := by
 have hS1 : 1 ≤ S := by have := hO.vt.st0; have := hO.hS; omega
 have hS2 : S ≤ 40 := by have := hO.vt.st1; have := hO.hS; omega
 have hP1 : 1 ≤ P := by have := hO.vp.st0; have := hO.hP; omega
 have hP2 : P ≤ 40 := by have := hO.vp.st1; have := hO.hP; omega
 have HOO := Lib.hid hO
 have HOB := Lib.hid hob
 have hobl := hob.lt
 have hS := hO.hS
 have hP := hO.hP
 rw [← hS, ← hP]
 have HSS := Lib.hid hS
 have HPP := Lib.hid hP
 obtain ⟨i0, hi, hz0, hz1, hz2⟩ := info_parts info_boolsL
 obtain ⟨w1, hw1⟩ : ∃ w1, w1 = w.alloc (.cells #[.int .i64 S, .int .i64 t.initial, lv, ev, .int .i64 P, .int .i64 p.initial, lv2, ev2] 51) := ⟨_, rfl⟩
 have hB1 : Below w.heap.size w w1 := by rw [hw1]; exact box_below _ _ _
 have hz1' : w1.heap.size = w.heap.size + 1 := by rw [hw1]; simp
 have hbx : Blk w1 w.heap.size [.int .i64 S, .int .i64 t.initial, lv, ev, .int .i64 P, .int .i64 p.initial, lv2, ev2] 51 := by rw [hw1]; exact Blk.new w _ _
 have x0 := hbx.cell 0 rfl
 have HW1 := Lib.hid hw1
 have HB1 := Lib.hid hB1
 have HBX := Lib.hid hbx
 have hgw : w.heap.size ≤ w1.heap.size := by omega
 have hgl : w.heap.size < w1.heap.size := by omega
 clear hO hob hS hP hw1 hB1 hbx hz1'
 go_enter Tryz.func95, Tryz.ntmps95
 go_wp2_with (at_make; rw [← HW1.out]; refine wpList_make_full _ rfl _ _ 72 rfl w1.heap.size 59 i0 _ 1 Tryz.underlying72 hi hz0 hz1 .i64 .i64 _ _ S rfl rfl rfl rfl ?_ ?_ ?_ ?_)
 ·rw [hz2]; omega
 ·simp [maxLen]; omega
 ·exact Nat.le_refl _
 intro w2 ho hg
 rw [toList_madeCells_one] at ho
 have hb2 : Below w1.heap.size w1 w2 := (Below.refl _ w1).grown hg (Nat.le_refl _) (fun _ h => by cases h)
 have hB : Blk w2 w1.heap.size (List.replicate S (.slice none 0 0)) 59 := by
  obtain ⟨h0, ⟨e9, -⟩ | ⟨g9, cap, cur, e9, -, hh, hc, hm, hs, ht⟩⟩ := ho
  ·cases e9
  ·simp only [Value.slice.injEq, Option.some.injEq, Addr.mk.injEq, and_true, true_and] at e9
   obtain ⟨e9, rfl⟩ := e9
   subst e9
   unfold Blk
   rw [hh]
   rw [List.take_of_length_le (by simp; omega)] at ht
   rw [← ht]
 have HBX2 := Lib.hid (HBX.out.below hb2)
 have HB2 : Hid (Below w.heap.size w w2) := HB1.out.trans (hb2.mono HB1.out.size)
 obtain ⟨g, hgg⟩ : ∃ g, g = w1.heap.size := ⟨_, rfl⟩
 rw [← hgg] at hB hgw hgl ⊢
 have HBB := Lib.hid hB
 clear hi hz0 hz1 hz2 i0 ho hg hb2 hB x0 HBX HW1 HB1 hgg
 obtain ⟨w3, hw3⟩ : ∃ w3, w3 = w2.alloc (.cells #[.slice (some ⟨g, 0, none⟩) S S] 72) := ⟨_, rfl⟩
 obtain ⟨bm, hbm⟩ : ∃ bm, bm = w2.heap.size := ⟨_, rfl⟩
 have HBI : Hid (BuildF w g bm S P [] w3) := by
  rw [hw3, hbm]
  exact ⟨HB2.out.alloc HB2.out.size _, Blk.new w2 _ _, by simpa using HBB.out.alloc _, List.nodup_nil, fun x hx => (by cases hx), fun x hx => (by cases hx)⟩
 have HBX3 : Hid (Blk w3 w.heap.size [.int .i64 S, .int .i64 t.initial, lv, ev, .int .i64 P, .int .i64 p.initial, lv2, ev2] 51) := by rw [hw3]; exact HBX2.out.alloc _
 have HW3 := Lib.hid hw3
 have HBM := Lib.hid hbm
 clear hw3 hbm HBX2 HB2 HBB
 go_wp2_with fail
 rw [← HBM.out, ← HW3.out]
 clear HBM HW3
 go_loopw [19] (fun i wr => ∃ gs : List Nat, gs.length ≤ S ∧ i = .int .i64 gs.length ∧ BuildF w g bm S P gs wr ∧ Blk wr w.heap.size [.int .i64 S, .int .i64 t.initial, lv, ev, .int .i64 P, .int .i64 p.initial, lv2, ev2] 51) (fun i _ => S - (intOf i).toNat)
 case atStart => exact ⟨[], Nat.zero_le _, rfl, HBI.out, HBX3.out⟩
 case round =>
  obtain ⟨gs, hk, rfl, hin, hbx⟩ := hrel
  clear HBI HBX3
  have HIN := Lib.hid hin
  have HBX := Lib.hid hbx
  have c1 := hin.box.cell 0 rfl
  have c2 := hbx.cell 4 rfl
  have hbl := hin.box.lt
  have hgr := hin.rows.lt
  have hxl := hbx.lt
  obtain ⟨k, hkk⟩ : ∃ k, k = gs.length := ⟨_, rfl⟩
  rw [← hkk] at hk ⊢
  by_cases hlt : k < S
  ·have c3 : wr.cell? ⟨g, k, none⟩ = some (.slice none 0 0) := hin.rows.cell k (by
    rw [List.getElem?_append_right (by simp; omega), List.getElem?_replicate, if_pos (by simp; omega)])
   have f3 := hin.rows.frozen k
   have hW : Below wr.heap.size wr ((wr.alloc (.cells #[.bool false] 4)).drew) := (box_below _ _ _).drew
   have hWs : ((wr.alloc (.cells #[.bool false] 4)).drew).heap.size = wr.heap.size + 1 := by simp
   have W1 := keeps hW hbl c1
   have W2 := keeps hW hxl c2
   have W3 := keeps hW hgr c3
   have W4 : ((wr.alloc (.cells #[.bool false] 4)).drew).frozen? ⟨g, k, none⟩ = false := (hW.frozen (p := ⟨g, k, none⟩) hgr).trans f3
   have HW := Lib.hid hW
   have HKK := Lib.hid hkk
   have hki : (k : Int) < (S : Int) := by omega
   have hne1 : bm ≠ g := hin.apart
   have hne2 : w.heap.size ≠ g := by omega
   clear hin hbx hW hkk
   go_wp2_with fail
   go_region_held3 (fun w' => w'.cell? ⟨bm, 0, none⟩ = some (.slice (some ⟨g, 0, none⟩) S S) ∧ w'.cell? ⟨w.heap.size, 4, none⟩ = some (.int .i64 P))
    (first
     | (refine ⟨?_, ?_⟩ <;> assumption)
     | (refine ⟨?_, ?_⟩ <;> (rw [cell_set_other (by first | exact hne1 | exact hne2)]; assumption))
     | go_keep)
    (first
     | (go_at_call 120; refine (RepeatZ_any false P wr.heap.size _ hP1 hP2 (by simp)).mono ?_; rintro e w9 ⟨rfl, hb9, hB9⟩; have k1 := keeps hb9 (by simp; omega) W1; have k2 := keeps hb9 (by simp; omega) W2; have k3 := keeps hb9 (by simp; omega) W3; have k4 := (hb9.frozen (p := ⟨g, k, none⟩) (by simp; omega)).trans W4))
   have HN : Hid (BuildF w g bm S P (gs ++ [wr.heap.size + 1]) (w9.setCell ⟨g, k, none⟩ (.slice (some ⟨wr.heap.size + 1, 0, none⟩) P P))) := by
    have := HIN.out.next (by rw [← HKK.out]; exact hlt) hgw HW.out hb9 hB9
    rw [← HKK.out, hWs] at this
    exact this
   have HBX9 : Hid (Blk (w9.setCell ⟨g, k, none⟩ (.slice (some ⟨wr.heap.size + 1, 0, none⟩) P P)) w.heap.size [.int .i64 S, .int .i64 t.initial, lv, ev, .int .i64 P, .int .i64 p.initial, lv2, ev2] 51) :=
    (HBX.out.below (HW.out.trans (hb9.mono HW.out.size))).setOther _ _ hne2
   clear hb9 hB9 k1 k2 k3 k4 W1 W2 W3 W4 hWs c1 c2 c3 f3 HW
   go_wp2_with fail
   go_roundw
   case rel => exact ⟨gs ++ [wr.heap.size + 1], by have := HKK.out; simp; omega, by have := HKK.out; rw [List.length_append, ← this]; go_num, HN.out, HBX9.out⟩
   case measure => simp [intOf]; omega
  ·obtain rfl : k = S := by omega
   have HM0 := Lib.hid (hin.mat hkk.symm)
   have HBL := Lib.hid hin.below
   have HGS := Lib.hid hin.own
   clear hin hbx HIN HBX c1 c2 hbl hgr hxl hkk hk hlt
   go_wp2_with fail
   go_loopg [10] (2 * (k * P) + 1) (fun gk v10 wr => ∃ (c : List Bool) (b : Bool), v10 = .bool b ∧ RoundLv t p k P bm g gs w wr gk b c)
   case atStart => exact ⟨List.replicate (k * P) false, true, rfl, LvSound.start _ _ _, (fun h => by cases h), by simp, HBL.out, HM0.out⟩
   case round =>
    obtain ⟨c, b, rfl, hrel⟩ := hrel
    have HR := Lib.hid hrel
    have m0 := hrel.mat.box.cell 0 rfl
    clear hrel HM0 HBL
    cases b
    ·go_wp2_with fail
     go_ret
     exact ⟨c, bm, g, gs, rfl, HR.out.below, HR.out.mat, ⟨by rw [HR.out.mat.size, ← HSS.out, ← HPP.out]; simp, HR.out.sound, calm_closed HOO.out.vt HSS.out HPP.out (HR.out.rest rfl)⟩, HGS.out, hgw⟩
    ·go_wp2_with fail
     go_loopw [10, 36] (fun v10 v36 wr => ∃ (x : Nat) (cB : List Bool) (b : Bool), v10 = .bool b ∧ v36 = .int .i64 x ∧ x ≤ k ∧ SweepLv t p k P bm g gs w wr c cB b x 0) (fun _ v36 _ => k - (intOf v36).toNat)
     case atStart => exact ⟨0, c, false, rfl, rfl, Nat.zero_le _, More.refl _, HR.out.sound, (fun _ _ h => absurd h (Nat.not_lt_zero _)), (fun _ _ h => absurd h (Nat.not_lt_zero _)), HR.out.below, HR.out.mat⟩
     case round =>
      obtain ⟨x, cB, b, rfl, rfl, hxk, hin⟩ := hrel
      have HI := Lib.hid hin
      clear m0
      by_cases hlt : x < k
      ·have m1 := hin.mat.box.cell 0 rfl
       have hx : x < gs.length := by rw [hin.mat.len]; exact hlt
       have m2 := hin.mat.rowCell x hx
       obtain ⟨rb, hrb⟩ : ∃ rb, rb = gs[x] := ⟨_, rfl⟩
       rw [← hrb] at m2
       have HRB := Lib.hid hrb
       have hxi : (x : Int) < (k : Int) := by omega
       have hrown : w.heap.size ≤ rb := by rw [hrb]; exact HGS.out _ (List.getElem_mem _)
       clear hin hrb
       go_wp2_with fail
       clear m1 m2
       go_loopw [10, 44] (fun v10 v44 wr => ∃ (q : Nat) (cC : List Bool) (b : Bool), v10 = .bool b ∧ v44 = .int .i64 q ∧ q ≤ P ∧ SweepLv t p k P bm g gs w wr c cC b x q) (fun _ v44 _ => P - (intOf v44).toNat)
       case atStart => exact ⟨0, cB, b, rfl, rfl, Nat.zero_le _, HI.out⟩
       case round =>
        clear HI
        obtain ⟨q, cC, b4, rfl, rfl, hqP, hin4⟩ := hrel
        have HI4 := Lib.hid hin4
        by_cases hq : q < P
        ·have n1 := hin4.mat.box.cell 0 rfl
         have n2 := hin4.mat.rowCell x hx
         have n3 := hin4.mat.cell x q hx hq
         rw [← HRB.out] at n2 n3
         have hqi : (q : Int) < (P : Int) := by omega
         have HIX : Hid (idx p x q = x * P + q) := idx_nat HPP.out x q
         have HSZ : Hid (x * P + q < cC.length) := by unfold Hid; rw [hin4.mat.size]; exact pair_lt hlt hq
         clear hin4
         cases hcg : cC.getD (x * P + q) false
         ·rw [hcg] at n3
          have HCG := Lib.hid hcg
          clear hcg
          go_wp2_with fail
          refine (leave1_any lo ob bm k P cC g gs t p lv ev lv2 ev2 x q _ (HOO.out.below HI4.out.below) HI4.out.mat (by omega) hqi (HOB.out.below HI4.out.below)).mono ?_
          rintro e w6 ⟨rfl, hb6⟩
          have HM6 := Lib.hid (HI4.out.mat.below hb6)
          have HB6 := Lib.hid (HI4.out.below.trans (hb6.mono HI4.out.below.size))
          have d1 := HM6.out.box.cell 0 rfl
          have d2 := HM6.out.rowCell x hx
          have d3 := HM6.out.cell x q hx hq
          have d4 := (HM6.out.row x hx).frozen q
          rw [← HRB.out] at d2 d3 d4
          rw [HCG.out] at d3
          clear n1 n2 n3 hb6
          cases hgo : goesLv t p cC (outOf t x) q
          ·have HGO := Lib.hid hgo
           clear hgo
           go_wp2_with fail
           go_roundw
           case rel => exact ⟨q + 1, cC, b4, rfl, by go_num, by omega, HI4.out.more, HI4.out.sound, HI4.out.calm, (fun h q' hq' hl => by
            by_cases e9 : q' = q
            ·subst e9; rw [HGO.out] at hl; cases hl
            ·exact HI4.out.here h q' (by omega) hl), HB6.out, HM6.out⟩
           case measure => simp [intOf]; omega
          ·have HM7 : Hid (Mat (w6.setCell ⟨rb, q, none⟩ (.bool true)) bm k P (cC.set (x * P + q) true) g gs) := by
            rw [HRB.out]
            exact HM6.out.set x q hx hq true
           have HB7 : Hid (Below w.heap.size w (w6.setCell ⟨rb, q, none⟩ (.bool true))) := HB6.out.setCell hrown _
           have HL7 : Hid (More c (cC.set (x * P + q) true) true) := HI4.out.more.set HSZ.out HCG.out
           have HS7 : Hid (LvSound t p (cC.set (x * P + q) true)) := by
            have h := HI4.out.sound.row HOO.out.vt HOO.out.vp (x := x) (q := q) (by rw [← HPP.out]; exact hqi) hgo
            rw [HIX.out] at h
            exact h
           clear hgo
           go_wp2_with fail
           go_roundw
           case rel => exact ⟨q + 1, _, true, rfl, by go_num, by omega, HL7.out, HS7.out, (fun h => by cases h), (fun h => by cases h), HB7.out, HM7.out⟩
           case measure => simp [intOf]; omega
         ·rw [hcg] at n3
          have HCG := Lib.hid hcg
          clear hcg
          go_wp2_with fail
          go_roundw
          case rel => exact ⟨q + 1, cC, b4, rfl, by go_num, by omega, HI4.out.more, HI4.out.sound, HI4.out.calm, (fun h q' hq' hl => by
           by_cases e9 : q' = q
           ·subst e9; rw [HIX.out]; exact HCG.out
           ·exact HI4.out.here h q' (by omega) hl), HI4.out.below, HI4.out.mat⟩
          case measure => simp [intOf]; omega
        ·obtain rfl : P = q := by omega
         clear hin4
         go_wp2_with fail
         go_roundw
         case rel => exact ⟨x + 1, cC, b4, rfl, by go_num, by omega, HI4.out.more, HI4.out.sound, (fun h y hy => by
          by_cases e9 : y = x
          ·subst e9; exact HI4.out.here h
          ·exact HI4.out.calm h y (by omega)), (fun _ _ h => absurd h (Nat.not_lt_zero _)), HI4.out.below, HI4.out.mat⟩
         case measure => simp [intOf]; omega
      ·obtain rfl : k = x := by omega
       clear hin
       go_wp2_with fail
       go_roundg (2 * cB.count false + b.toNat)
       case measure =>
        have h1 := HR.out.left
        rcases HI.out.more.2 with ⟨rfl, h2⟩ | ⟨rfl, h2⟩
        ·simp only [Bool.toNat_true] at *; omega
        ·rw [h2]; simp only [Bool.toNat_true, Bool.toNat_false] at *; omega
       case rel => exact ⟨cB, b, rfl, HI.out.sound, HI.out.calm, Nat.le_refl _, HI.out.below, HI.out.mat⟩

end Go.Proofs.YtmhpfmanagbggaaGreatDoor

namespace Go.Proofs.YtmhpfmanagbggaaGreatDoor
open Go Go.RowKit

set_option maxRecDepth 100000 in
set_option maxHeartbeats 1000000 in
theorem stay_any (lo S P : Nat) (t p : Lts) (lv ev lv2 ev2 : Value) (w : World) (hO : Both lo S P t p lv ev lv2 ev2 w) :
  Calls Tryz.prog 72 #[.agg #[.int .i64 t.states, .int .i64 t.initial, lv, ev, .int .i64 p.states, .int .i64 p.initial, lv2, ev2]] w (MadeMat t p S P w) := by
 have HB := Lib.hid (box_below w #[.int .i64 t.states, .int .i64 t.initial, lv, ev, .int .i64 p.states, .int .i64 p.initial, lv2, ev2] 51)
 have HC := Lib.hid (settle_any lo w.heap.size S P t p lv ev lv2 ev2 _ (hO.below HB.out) (Blk.new w _ _))
 clear hO
 go_enter Tryz.func72, Tryz.ntmps72
 go_wp2_with fail
 refine Calls.mono HC.out ?_
 rintro e w2 ⟨c, bm, g, gs, rfl, hb2, hm, hr⟩
 have HB2 := Lib.hid (HB.out.trans (hb2.mono HB.out.size))
 have HM := Lib.hid hm
 have HR := Lib.hid hr
 clear hb2 hm hr
 go_wp2_with fail
 go_ret
 exact ⟨c, bm, g, gs, rfl, HB2.out, HM.out, HR.out⟩

end Go.Proofs.YtmhpfmanagbggaaGreatDoor

namespace Go.Proofs.YtmhpfmanagbggaaGreatDoor
open Go Go.RowKit

/-- One of some states is marked with a state of the property. -/
def inV (p : Lts) (c : List Bool) (xs : List Int) (y : Int) : Bool := xs.any fun x => c.getD (idx p x y) false
theorem inV_succ (p : Lts) (c : List Bool) {xs : List Int} (y : Int) {k : Nat} (h : k < xs.length) : inV p c (xs.take (k + 1)) y = (inV p c (xs.take k) y || c.getD (idx p xs[k] y) false) := any_take xs _ k h
/-- The verdict of states of the model and a state of the property, or -1. -/
def vdL (p : Lts) (c d : List Bool) (xs : List Int) (y : Int) : Int := if y < 0 then 2 else if inV p c xs y = false then 1 else if inV p d xs y = false then 2 else 0

end Go.Proofs.YtmhpfmanagbggaaGreatDoor

namespace Go.Proofs.YtmhpfmanagbggaaGreatDoor
open Go Go.RowKit

def idxI (P : Int → Bool) (xs : List Int) : Int := if xs.findIdx P < xs.length then (xs.findIdx P : Nat) else -1
theorem idxI_neg {P : Int → Bool} {xs : List Int} : idxI P xs = -1 ↔ ∀ x ∈ xs, P x = false := by
 unfold idxI
 by_cases h : xs.findIdx P < xs.length
 ·rw [if_pos h]
  refine ⟨fun e => by omega, fun h2 => ?_⟩
  obtain ⟨x, hx, hp⟩ := List.findIdx_lt_length.1 h
  rw [h2 x hx] at hp
  cases hp
 ·rw [if_neg h]
  refine ⟨fun _ x hx => ?_, fun _ => rfl⟩
  cases hp : P x
  ·rfl
  ·exact absurd (List.findIdx_lt_length.2 ⟨x, hx, hp⟩) h
theorem idxI_any {P : Int → Bool} {xs : List Int} : decide (0 ≤ idxI P xs) = xs.any P := by
 unfold idxI
 by_cases h : xs.findIdx P < xs.length
 ·rw [if_pos h]
  obtain ⟨x, hx, hp⟩ := List.findIdx_lt_length.1 h
  rw [List.any_eq_true.2 ⟨x, hx, hp⟩]
  simp
 ·rw [if_neg h]
  have : xs.any P = false := by
   rw [List.any_eq_false]
   intro x hx hp
   exact h (List.findIdx_lt_length.2 ⟨x, hx, hp⟩)
  rw [this]
  rfl
/-- A function of one element that answers P, and turns nothing that was there. -/
def AskI (fid : Nat) (caps : Array Value) (P : Int → Bool) (xs : List Int) (B : Nat) (w : World) : Prop :=
 ∀ w', Below B w w' → ∀ x ∈ xs, Calls Tryz.prog fid (#[.int .i64 x] ++ caps) w' fun e w'' => e = .returned (.bool (P x)) ∧ Below w'.heap.size w' w''

set_option maxRecDepth 100000 in
set_option maxHeartbeats 1000000 in
theorem IndexFuncI (lo : Nat) (v : Value) (xs : List Int) (fid : Nat) (caps : Array Value) (P : Int → Bool) (w : World) (hv : SliceK 1 encI lo w v xs) (eg : ∀ args w, (callFunc fid args).run Tryz.prog w = .ok (.enter fid args) w) (hP : AskI fid caps P xs w.heap.size w) :
  Calls Tryz.prog 109 #[v, .func (.func fid) #[] caps] w fun e w' => e = .returned (.int .i64 (idxI P xs)) ∧ Below w.heap.size w w' := by
 obtain ⟨a, c, rfl, hcn, hcc, hrow⟩ := hv
 have HR := Lib.hid hrow
 have HP := Lib.hid hP
 clear hP hrow
 go_enter Tryz.func109, Tryz.ntmps109
 go_wp2_with fail
 go_loopw [8] (fun i wr => ∃ k : Nat, k ≤ xs.length ∧ i = .int .i64 k ∧ Below w.heap.size w wr ∧ ∀ j (h : j < xs.length), j < k → P xs[j] = false) (fun i _ => xs.length - (intOf i).toNat)
 case atStart => exact ⟨0, Nat.zero_le _, rfl, Below.refl _ _, fun _ _ h => by omega⟩
 case round =>
  obtain ⟨k, hk, rfl, hbl, ha⟩ := hrel
  have HA := Lib.hid ha
  have HBL := Lib.hid hbl
  clear ha
  by_cases hlt : k < xs.length
  ·obtain ⟨b1, o1, rfl, -, hbs, c1⟩ := (HR.out.below hbl).one hlt
   simp only [encI, List.getElem?_cons_zero] at c1
   clear hbl
   obtain ⟨x, hx⟩ : ∃ x, x = xs[k] := ⟨_, rfl⟩
   rw [← hx] at c1
   have HX := Lib.hid hx
   have HC := Lib.hid (HP.out wr HBL.out x (by rw [hx]; exact List.getElem_mem _))
   obtain ⟨b, hb⟩ : ∃ b, b = P x := ⟨_, rfl⟩
   rw [← hb] at HC
   have HB := Lib.hid hb
   clear hb hx
   go_wp2_with fail
   refine Calls.mono HC.out ?_
   rintro e w1 ⟨rfl, hb1⟩
   have HB1 := Lib.hid (HBL.out.trans (hb1.mono HBL.out.size))
   clear hb1 c1
   cases b
   ·go_wp2_with fail
    go_roundw
    case rel => exact ⟨k + 1, by omega, by go_num, HB1.out, fun j h hj => by
     by_cases e : j = k
     ·subst e; rw [← HX.out]; exact HB.out.symm
     ·exact HA.out j h (by omega)⟩
    case measure => simp [intOf]; omega
   ·have HI : Hid (idxI P xs = (k : Int)) := by
     unfold Hid idxI
     have h1 : xs.findIdx P = k := by
      rw [List.findIdx_eq hlt]
      exact ⟨by rw [← HX.out]; exact HB.out.symm, fun j hj => HA.out j (by omega) hj⟩
     rw [h1, if_pos hlt]
    go_wp2_with fail
    go_ret
    exact ⟨ret_int HI.out.symm, HB1.out⟩
  ·clear hbl
   have HI : Hid (idxI P xs = -1) := by
    unfold Hid
    rw [idxI_neg]
    intro x hx
    obtain ⟨j, hj, rfl⟩ := List.mem_iff_getElem.1 hx
    exact HA.out j hj (by omega)
   go_wp2_with fail
   go_ret
   exact ⟨ret_int HI.out.symm, HBL.out⟩

theorem ContainsFuncI (lo : Nat) (v : Value) (xs : List Int) (fid : Nat) (caps : Array Value) (P : Int → Bool) (w : World) (hv : SliceK 1 encI lo w v xs) (eg : ∀ args w, (callFunc fid args).run Tryz.prog w = .ok (.enter fid args) w) (hP : AskI fid caps P xs w.heap.size w) :
  Calls Tryz.prog 82 #[v, .func (.func fid) #[] caps] w fun e w' => e = .returned (.bool (xs.any P)) ∧ Below w.heap.size w w' := by
 have HC := Lib.hid (IndexFuncI lo v xs fid caps P w hv eg hP)
 clear hP
 go_enter Tryz.func82, Tryz.ntmps82
 go_wp2_with fail
 refine Calls.mono HC.out ?_
 rintro e w' ⟨rfl, hb⟩
 have HB := Lib.hid hb
 clear hb
 go_wp2_with fail
 go_ret
 exact ⟨ret_bool idxI_any, HB.out⟩

end Go.Proofs.YtmhpfmanagbggaaGreatDoor

namespace Go.Proofs.YtmhpfmanagbggaaGreatDoor
open Go Go.RowKit

set_option maxRecDepth 100000 in
set_option maxHeartbeats 1000000 in
theorem leaveM_any (lo S P : Nat) (t p : Lts) (lv ev lv2 ev2 : Value) (w : World) (hO : Both lo S P t p lv ev lv2 ev2 w) :
  Calls Tryz.prog 71 #[.agg #[.int .i64 t.states, .int .i64 t.initial, lv, ev, .int .i64 p.states, .int .i64 p.initial, lv2, ev2]] w (MadeMatL t p S P w) := by
 have HB := Lib.hid (box_below w #[.int .i64 t.states, .int .i64 t.initial, lv, ev, .int .i64 p.states, .int .i64 p.initial, lv2, ev2] 51)
 have HC := Lib.hid (settleL_any lo w.heap.size S P t p lv ev lv2 ev2 _ (hO.below HB.out) (Blk.new w _ _))
 clear hO
 go_enter Tryz.func71, Tryz.ntmps71
 go_wp2_with fail
 refine Calls.mono HC.out ?_
 rintro e w2 ⟨c, bm, g, gs, rfl, hb2, hm, hr, hgs, hg⟩
 have HB2 := Lib.hid (HB.out.trans (hb2.mono HB.out.size))
 have HM := Lib.hid hm
 have HR := Lib.hid hr
 have HGS : Hid ((∀ x ∈ gs, w.heap.size ≤ x) ∧ w.heap.size ≤ g) := ⟨fun x hx => Nat.le_trans HB.out.size (hgs x hx), Nat.le_trans HB.out.size hg⟩
 clear hb2 hm hr hgs hg
 go_wp2_with fail
 go_ret
 exact ⟨c, bm, g, gs, rfl, HB2.out, HM.out, HR.out, HGS.out.1, HGS.out.2⟩

set_option maxRecDepth 100000 in
theorem verdict1_any (jb yb bm S P : Nat) (c : List Bool) (g : Nat) (gs : List Nat) (jv : List Value) (x y : Nat) (w : World) (hj : Blk w jb jv 74) (hjv : jv[0]? = some (.slice (some ⟨g, 0, none⟩) S S)) (hy : Blk w yb [.int .i64 y] 2) (hm : Mat w bm S P c g gs) (hx : x < S) (hyP : y < P) :
  Calls Tryz.prog 83 #[.int .i64 x, .pointer (some ⟨jb, 0, none⟩), .pointer (some ⟨yb, 0, none⟩)] w fun e w' => e = .returned (.bool (c.getD (x * P + y) false)) ∧ Below w.heap.size w w' := by
 have hxg : x < gs.length := by rw [hm.len]; exact hx
 have l0 := later_cell hj.lt (hj.cell 0 hjv)
 have l1 := later_cell hy.lt (hy.cell 0 rfl)
 have l2 := later_cell hm.rows.lt (hm.rowCell x hxg)
 have l3 := later_cell (hm.row x hxg).lt (hm.cell x y hxg hyP)
 obtain ⟨rb, hrb⟩ : ∃ rb, rb = gs[x] := ⟨_, rfl⟩
 obtain ⟨b, hb⟩ : ∃ b, b = c.getD (x * P + y) false := ⟨_, rfl⟩
 rw [← hrb] at l2 l3
 rw [← hb] at l3 ⊢
 have hxi : (x : Int) < (S : Int) := by omega
 have hyi : (y : Int) < (P : Int) := by omega
 clear hj hy hm hb hrb
 go_enter Tryz.func83, Tryz.ntmps83
 go_wp2
 refine wp_region_later (by kernel_rfl) (by kernel_rfl) ?_
 repeat (go_big_quiet_step ((fail)))
 refine wpQuiet_nil ?_
 intro _ hw9
 obtain ⟨nl, hw8⟩ := hw9
 subst hw8
 go_wp2
 go_ret
 exact ⟨rfl, nl.h⟩

set_option maxRecDepth 100000 in
theorem verdict2_any (jb yb bm S P : Nat) (c : List Bool) (g : Nat) (gs : List Nat) (jv : List Value) (x y : Nat) (w : World) (hj : Blk w jb jv 74) (hjv : jv[1]? = some (.slice (some ⟨g, 0, none⟩) S S)) (hy : Blk w yb [.int .i64 y] 2) (hm : Mat w bm S P c g gs) (hx : x < S) (hyP : y < P) :
  Calls Tryz.prog 84 #[.int .i64 x, .pointer (some ⟨jb, 0, none⟩), .pointer (some ⟨yb, 0, none⟩)] w fun e w' => e = .returned (.bool (c.getD (x * P + y) false)) ∧ Below w.heap.size w w' := by
 have hxg : x < gs.length := by rw [hm.len]; exact hx
 have l0 := later_cell hj.lt (hj.cell 1 hjv)
 have l1 := later_cell hy.lt (hy.cell 0 rfl)
 have l2 := later_cell hm.rows.lt (hm.rowCell x hxg)
 have l3 := later_cell (hm.row x hxg).lt (hm.cell x y hxg hyP)
 obtain ⟨rb, hrb⟩ : ∃ rb, rb = gs[x] := ⟨_, rfl⟩
 obtain ⟨b, hb⟩ : ∃ b, b = c.getD (x * P + y) false := ⟨_, rfl⟩
 rw [← hrb] at l2 l3
 rw [← hb] at l3 ⊢
 have hxi : (x : Int) < (S : Int) := by omega
 have hyi : (y : Int) < (P : Int) := by omega
 clear hj hy hm hb hrb
 go_enter Tryz.func84, Tryz.ntmps84
 go_wp2
 refine wp_region_later (by kernel_rfl) (by kernel_rfl) ?_
 repeat (go_big_quiet_step ((fail)))
 refine wpQuiet_nil ?_
 intro _ hw9
 obtain ⟨nl, hw8⟩ := hw9
 subst hw8
 go_wp2
 go_ret
 exact ⟨rfl, nl.h⟩

set_option maxRecDepth 100000 in
set_option maxHeartbeats 1000000 in
theorem verdict_any (lo bm bm2 S P : Nat) (t p : Lts) (c d : List Bool) (g g2 : Nat) (gs gs2 : List Nat) (sv : Value) (xs : List Int) (y : Int) (w : World) (hS : (S : Int) = t.states) (hP : (P : Int) = p.states) (hm : Mat w bm S P c g gs) (hm2 : Mat w bm2 S P d g2 gs2)
  (hs : SliceK 1 encI lo w sv xs) (hx : ∀ x ∈ xs, 0 ≤ x ∧ x < t.states) (hy : y < p.states)  :
  Calls Tryz.prog 48 #[.agg #[.slice (some ⟨g, 0, none⟩) S S, .slice (some ⟨g2, 0, none⟩) S S], sv, .int .i64 y] w fun e w' => e = .returned (.int .i64 (vdL p c d xs y)) ∧ Below w.heap.size w w' := by
 obtain ⟨W, hW⟩ : ∃ W, W = (w.alloc (.cells #[.slice (some ⟨g, 0, none⟩) S S, .slice (some ⟨g2, 0, none⟩) S S] 74)).alloc (.cells #[.int .i64 y] 2) := ⟨_, rfl⟩
 obtain ⟨jb, hjb⟩ : ∃ jb, jb = w.heap.size := ⟨_, rfl⟩
 have hb : Below w.heap.size w W := by rw [hW]; exact ((Below.refl _ _).alloc (Nat.le_refl _) _).alloc (by simp) _
 have hJ : Blk W jb [.slice (some ⟨g, 0, none⟩) S S, .slice (some ⟨g2, 0, none⟩) S S] 74 := by rw [hW, hjb]; exact (Blk.new w _ _).alloc _
 have hY : Blk W (jb + 1) [.int .i64 y] 2 := by
  have h := Blk.new (w.alloc (.cells #[.slice (some ⟨g, 0, none⟩) S S, .slice (some ⟨g2, 0, none⟩) S S] 74)) [.int .i64 y] 2
  rw [World.size_alloc, ← hjb] at h
  rw [hW]
  exact h
 have HB := Lib.hid hb
 have HJ := Lib.hid hJ
 have HY := Lib.hid hY
 have HW := Lib.hid hW
 have HJB := Lib.hid hjb
 have HSV := Lib.hid (hs.below hb)
 by_cases hneg : y < 0
 ·have HF : Hid (vdL p c d xs y = 2) := by unfold Hid vdL; rw [if_pos hneg]
  have y0 := hY.cell 0 rfl
  rw [hW, hjb] at y0
  clear hs hm hm2 hb hJ hY hW hjb
  go_enter Tryz.func48, Tryz.ntmps48
  go_wp2
  rw [← HW.out]
  go_ret
  exact ⟨ret_int HF.out.symm, HB.out⟩
 ·obtain ⟨yn, rfl⟩ : ∃ yn : Nat, y = yn := ⟨y.toNat, by omega⟩
  have hyP : yn < P := by omega
  have HM := Lib.hid (hm.below hb)
  have HM2 := Lib.hid (hm2.below hb)
  have hpt : ∀ (e : List Bool), (xs.any fun x => e.getD (x.toNat * P + yn) false) = xs.any fun x => e.getD (idx p x yn) false := fun e => by
   rw [Bool.eq_iff_iff, List.any_eq_true, List.any_eq_true]
   constructor
   ·rintro ⟨x, h1, h2⟩
    obtain ⟨n, rfl⟩ : ∃ n : Nat, x = n := ⟨x.toNat, by have := (hx x h1).1; omega⟩
    exact ⟨_, h1, by rw [idx_nat hP]; simpa using h2⟩
   ·rintro ⟨x, h1, h2⟩
    obtain ⟨n, rfl⟩ : ∃ n : Nat, x = n := ⟨x.toNat, by have := (hx x h1).1; omega⟩
    exact ⟨_, h1, by rw [idx_nat hP] at h2; simpa using h2⟩
  have HC1 := Lib.hid (ContainsFuncI lo sv xs 83 #[.pointer (some ⟨jb, 0, none⟩), .pointer (some ⟨jb + 1, 0, none⟩)] (fun x => c.getD (x.toNat * P + yn) false) W HSV.out (fun args w => by kernel_rfl) (fun w' hb' x hxm => by
   obtain ⟨n, rfl⟩ : ∃ n : Nat, x = n := ⟨x.toNat, by have := (hx x hxm).1; omega⟩
   have := (hx _ hxm).2
   exact verdict1_any jb (jb + 1) bm S P c g gs _ n yn w' (HJ.out.below hb') rfl (HY.out.below hb') (HM.out.below hb') (by omega) hyP))
  have HC2 := Lib.hid (fun (w1 : World) (hb1 : Below W.heap.size W w1) => ContainsFuncI lo sv xs 84 #[.pointer (some ⟨jb, 0, none⟩), .pointer (some ⟨jb + 1, 0, none⟩)] (fun x => d.getD (x.toNat * P + yn) false) w1 (HSV.out.below hb1) (fun args w => by kernel_rfl) (fun w' hb' x hxm => by
   obtain ⟨n, rfl⟩ : ∃ n : Nat, x = n := ⟨x.toNat, by have := (hx x hxm).1; omega⟩
   have := (hx _ hxm).2
   have hbb := hb1.trans (hb'.mono hb1.size)
   exact verdict2_any jb (jb + 1) bm2 S P d g2 gs2 _ n yn w' (HJ.out.below hbb) rfl (HY.out.below hbb) (HM2.out.below hbb) (by omega) hyP))
  simp only [hpt] at HC1 HC2
  have HV : Hid (vdL p c d xs yn = if (xs.any fun x => c.getD (idx p x yn) false) = false then 1 else if (xs.any fun x => d.getD (idx p x yn) false) = false then 2 else 0) := by unfold Hid vdL inV; rw [if_neg hneg]
  obtain ⟨b1, hb1⟩ : ∃ b1, b1 = xs.any fun x => c.getD (idx p x yn) false := ⟨_, rfl⟩
  obtain ⟨b2, hb2⟩ : ∃ b2, b2 = xs.any fun x => d.getD (idx p x yn) false := ⟨_, rfl⟩
  rw [← hb1] at HC1 HV
  rw [← hb2] at HC2 HV
  have y0 := hY.cell 0 rfl
  rw [hW, hjb] at y0
  obtain ⟨sa, sn, sc, hse⟩ : ∃ sa sn sc, sv = .slice sa sn sc := by obtain ⟨a, c, e, -⟩ := hs; exact ⟨_, _, _, e⟩
  subst hse
  clear hs hm hm2 hb hJ hY hW hjb hpt hb1 hb2 hx
  go_enter Tryz.func48, Tryz.ntmps48
  go_wp2_with fail
  rw [← HW.out]
  try rw [← HJB.out]
  refine Calls.mono HC1.out ?_
  rintro e w1 ⟨rfl, hq1⟩
  have HQ1 := Lib.hid hq1
  have HC22 := Lib.hid (HC2.out w1 hq1)
  clear hq1 HC1 HC2 y0
  cases b1
  ·go_wp2
   go_ret
   exact ⟨ret_int HV.out.symm, HB.out.trans (HQ1.out.mono HB.out.size)⟩
  ·go_wp2_with fail
   refine Calls.mono HC22.out ?_
   rintro e w2 ⟨rfl, hq2⟩
   have HQ2 := Lib.hid (HQ1.out.trans (hq2.mono HQ1.out.size))
   clear hq2 HC22
   cases b2
   ·go_wp2
    go_ret
    exact ⟨ret_int HV.out.symm, HB.out.trans (HQ2.out.mono HB.out.size)⟩
   ·go_wp2
    go_ret
    exact ⟨ret_int HV.out.symm, HB.out.trans (HQ2.out.mono HB.out.size)⟩

end Go.Proofs.YtmhpfmanagbggaaGreatDoor

namespace Go.Proofs.YtmhpfmanagbggaaGreatDoor
open Go Go.RowKit

theorem blk_neT {w : World} {a b : Nat} {xs ys : List Value} {s t : TypeId} (h : Blk w a xs s) (k : Blk w b ys t) (hn : s ≠ t) : a ≠ b := fun e => by
 subst e
 unfold Blk at h k
 rw [h] at k
 simp only [Option.some.injEq, Obj.cells.injEq] at k
 exact hn k.2.1
theorem Mat.setT {w : World} {bm S P : Nat} {c : List Bool} {g : Nat} {gs : List Nat} (h : Mat w bm S P c g gs) {b : Nat} {cs : List Value} (hb : Blk w b cs 74) (i : Nat) (u : Value) : Mat (w.setCell ⟨b, i, none⟩ u) bm S P c g gs :=
 ⟨h.box.setOther _ _ (blk_neT h.box hb (by decide)), h.rows.setOther _ _ (blk_neT h.rows hb (by decide)), h.len, h.nodup, h.size, fun x hx => (h.row x hx).setOther _ _ (blk_neT (h.row x hx) hb (by decide))⟩
theorem jdg_results {w : World} {b : Nat} {v0 v1 : Value} {tmps : Array Value} (hc : tmps.getD 2 undef = .pointer (some ⟨b, 0, none⟩)) (hb : Blk w b [v0, v1] 74) :
  (results Tryz.f41 tmps).run Tryz.prog w = .ok (.agg #[v0, v1]) w := by
 have h0 := hb.cell 0 rfl
 have h1 := hb.cell 1 rfl
 simp only [Array.getD_eq_getD_getElem?] at hc
 simp [results, Tryz.results41, go_sem, hc, h0, h1, Result.andThen]
/-- Both matrices. -/
def RetJudge (t p : Lts) (S P : Nat) (w : World) (e : Ending) (w' : World) : Prop :=
 ∃ (c d : List Bool) (bm g bm2 g2 : Nat) (gs gs2 : List Nat), e = .returned (.agg #[.slice (some ⟨g, 0, none⟩) S S, .slice (some ⟨g2, 0, none⟩) S S]) ∧ Below w.heap.size w w' ∧ Mat w' bm S P c g gs ∧ Mat w' bm2 S P d g2 gs2 ∧ LvIs t p c ∧ Rest t p (List.replicate (S * P) true) d

set_option maxRecDepth 100000 in
set_option maxHeartbeats 2000000 in
theorem judge_any (lo S P : Nat) (t p : Lts) (lv ev lv2 ev2 : Value) (w : World) (hO : Both lo S P t p lv ev lv2 ev2 w) :
  Calls Tryz.prog 41 #[.agg #[.int .i64 t.states, .int .i64 t.initial, lv, ev, .int .i64 p.states, .int .i64 p.initial, lv2, ev2]] w (RetJudge t p S P w) := by
 obtain ⟨ob, hob⟩ : ∃ ob, ob = w.heap.size := ⟨_, rfl⟩
 obtain ⟨wA, hwA⟩ : ∃ wA, wA = (w.alloc (.cells #[.int .i64 t.states, .int .i64 t.initial, lv, ev, .int .i64 p.states, .int .i64 p.initial, lv2, ev2] 51)).alloc (.cells #[.slice none 0 0, .slice none 0 0] 74) := ⟨_, rfl⟩
 have hbA : Below w.heap.size w wA := by rw [hwA]; exact ((Below.refl _ _).alloc (Nat.le_refl _) _).alloc (by simp) _
 have hX : Blk wA ob [.int .i64 t.states, .int .i64 t.initial, lv, ev, .int .i64 p.states, .int .i64 p.initial, lv2, ev2] 51 := by rw [hwA, hob]; exact (Blk.new w _ _).alloc _
 have hR : Blk wA (ob + 1) [.slice none 0 0, .slice none 0 0] 74 := by
  have h := Blk.new (w.alloc (.cells #[.int .i64 t.states, .int .i64 t.initial, lv, ev, .int .i64 p.states, .int .i64 p.initial, lv2, ev2] 51)) [.slice none 0 0, .slice none 0 0] 74
  rw [World.size_alloc, ← hob] at h
  rw [hwA]
  exact h
 have hD : Below wA.heap.size wA wA.drew := (Below.refl _ _).drew
 have HL := Lib.hid (leaveM_any lo S P t p lv ev lv2 ev2 wA.drew ((hO.below hbA).below hD))
 have HST := Lib.hid (fun w' (hb : Below wA.heap.size wA w') => stay_any lo S P t p lv ev lv2 ev2 w' ((hO.below hbA).below hb))
 have HX := Lib.hid hX
 have HR := Lib.hid hR
 have HSW : Hid (∀ w', Below wA.heap.size wA w' → w'.cell? ⟨ob, 0, none⟩ = some (.int .i64 t.states) ∧ w'.cell? ⟨ob, 1, none⟩ = some (.int .i64 t.initial) ∧ w'.cell? ⟨ob, 2, none⟩ = some lv ∧ w'.cell? ⟨ob, 3, none⟩ = some ev ∧ w'.cell? ⟨ob, 4, none⟩ = some (.int .i64 p.states) ∧ w'.cell? ⟨ob, 5, none⟩ = some (.int .i64 p.initial) ∧ w'.cell? ⟨ob, 6, none⟩ = some lv2 ∧ w'.cell? ⟨ob, 7, none⟩ = some ev2) := fun w' hb =>
  ⟨(HX.out.below hb).cell 0 rfl, (HX.out.below hb).cell 1 rfl, (HX.out.below hb).cell 2 rfl, (HX.out.below hb).cell 3 rfl, (HX.out.below hb).cell 4 rfl, (HX.out.below hb).cell 5 rfl, (HX.out.below hb).cell 6 rfl, (HX.out.below hb).cell 7 rfl⟩
 have HD := Lib.hid hD
 have HBA := Lib.hid hbA
 have HWA := Lib.hid hwA
 have HOB := Lib.hid hob
 have hle : w.heap.size ≤ ob + 1 := by rw [hob]; omega
 clear hO hbA hX hR hD hwA hob
 go_enter Tryz.func41, Tryz.ntmps41
 go_wp2
 rw [← HWA.out]
 try rw [← HOB.out]
 go_region_held3 (fun w' => w'.cell? ⟨ob, 0, none⟩ = some (.int .i64 t.states) ∧ w'.cell? ⟨ob, 1, none⟩ = some (.int .i64 t.initial) ∧ w'.cell? ⟨ob, 2, none⟩ = some lv ∧ w'.cell? ⟨ob, 3, none⟩ = some ev ∧ w'.cell? ⟨ob, 4, none⟩ = some (.int .i64 p.states) ∧ w'.cell? ⟨ob, 5, none⟩ = some (.int .i64 p.initial) ∧ w'.cell? ⟨ob, 6, none⟩ = some lv2 ∧ w'.cell? ⟨ob, 7, none⟩ = some ev2)
  (first
   | exact HSW.out _ HD.out
   | exact HSW.out _ (Below.refl _ _)
   | exact HSW.out _ hq2
   | exact HSW.out _ hq3
   | exact hS5
   | go_keep)
  (first
   | (go_at_call 71; refine Calls.mono HL.out ?_; rintro e w2 ⟨c, bm, g, gs, rfl, hb2, hm2, hr2, -, -⟩; have hq2 : Below wA.heap.size wA w2 := HD.out.trans (hb2.mono (by simp)))
   | (go_at_call 72; refine Calls.mono (HST.out _ hq2) ?_; rintro e w3 ⟨d, bm2, g2, gs2, rfl, hb3, hm3, hr3⟩; have hq3 : Below wA.heap.size wA w3 := hq2.trans (hb3.mono hq2.size); have hR3 := HR.out.below hq3; have r0 := hR3.cell 0 rfl; have r1 := hR3.cell 1 rfl; have s0 := hR3.frozen 0; have s1 := hR3.frozen 1)
   | fail)
 all_goals (
  have HM2 := Lib.hid (hm2.below hb3)
  have HM3 := Lib.hid hm3
  have HRR := Lib.hid hR3
  have HQ := Lib.hid hq3
  have HE2 := Lib.hid hr2
  have HE3 := Lib.hid hr3
  clear hb2 hm2 hr2 hq2 hb3 hm3 hr3 hq3 hR3 r0 r1 s0 s1
  go_wp2
  refine bodyPost_ret (jdg_results rfl ((HRR.out.set 0 _).set 1 _)) rfl ?_
  exact ⟨c, d, bm, g, bm2, g2, gs, gs2, rfl, ((HBA.out.trans (HQ.out.mono HBA.out.size)).setCell hle _).setCell hle _, (HM2.out.setT HRR.out 0 _).setT (HRR.out.set 0 _) 1 _, (HM3.out.setT HRR.out 0 _).setT (HRR.out.set 0 _) 1 _, HE2.out, HE3.out⟩)

end Go.Proofs.YtmhpfmanagbggaaGreatDoor

namespace Go.Proofs.YtmhpfmanagbggaaGreatDoor
open Go Go.RowKit

/-- A system of the call's own. -/
def OwnLts (lo : Nat) (w : World) (lv ev : Value) (t : Lts) : Prop := w.ownsRow lo 9 1 lv t.labels.length (t.labels.map .string) ∧ w.ownsRow lo 67 3 ev t.edges.length (t.edges.flatMap encE)
theorem OwnLts.below {lo : Nat} {w w' : World} {lv ev : Value} {t : Lts} (h : OwnLts lo w lv ev t) (hb : Below w.heap.size w w') : OwnLts lo w' lv ev t := ⟨owns_below h.1 hb, owns_below h.2 hb⟩
theorem OwnLts.lower {lo lo' : Nat} {w : World} {lv ev : Value} {t : Lts} (h : OwnLts lo w lv ev t) (hl : lo' ≤ lo) : OwnLts lo' w lv ev t := ⟨own_lower h.1 hl, own_lower h.2 hl⟩
theorem OwnLts.turns {base lo hi : Nat} {w w' : World} {lv ev : Value} {t : Lts} (h : OwnLts base w lv ev t) (ht : Turns lo hi w w') (hb : hi ≤ base) : OwnLts base w' lv ev t :=
 ⟨owns_turns h.1 ht (fun b e => .inr (Nat.le_trans hb (h.1.lt b e).1)), owns_turns h.2 ht (fun b e => .inr (Nat.le_trans hb (h.2.lt b e).1))⟩
theorem OwnLts.at {lo : Nat} {w : World} {lv ev : Value} {t : Lts} (h : OwnLts lo w lv ev t) : LtsAt lo w (.agg #[.int .i64 t.states, .int .i64 t.initial, lv, ev]) t :=
 ⟨lv, ev, rfl, SliceK.of_owns (e := 9) encS_len rfl (by rw [flat_encS]; exact h.1), SliceK.of_owns (e := 67) encE_len rfl h.2⟩

end Go.Proofs.YtmhpfmanagbggaaGreatDoor

namespace Go.Proofs.YtmhpfmanagbggaaGreatDoor
open Go Go.RowKit

structure Mon where
 sys : Lts
 vs : List Int
/-- A monitor's slices. -/
structure MonIn (lo : Nat) (w : World) (lv ev vv : Value) (m : Mon) : Prop where
 labels : SliceK 1 encS lo w lv m.sys.labels
 edges : SliceK 3 encE lo w ev m.sys.edges
 marks : SliceK 1 encI lo w vv m.vs
theorem MonIn.below {lo : Nat} {w w' : World} {lv ev vv : Value} {m : Mon} (h : MonIn lo w lv ev vv m) (hb : Below w.heap.size w w') : MonIn lo w' lv ev vv m := ⟨h.labels.below hb, h.edges.below hb, h.marks.below hb⟩
/-- A monitor's own slices. -/
def OwnMon (lo : Nat) (w : World) (lv ev vv : Value) (m : Mon) : Prop := OwnLts lo w lv ev m.sys ∧ w.ownsRow lo 2 1 vv m.vs.length (m.vs.map (Value.int .i64))
theorem OwnMon.below {lo : Nat} {w w' : World} {lv ev vv : Value} {m : Mon} (h : OwnMon lo w lv ev vv m) (hb : Below w.heap.size w w') : OwnMon lo w' lv ev vv m := ⟨h.1.below hb, owns_below h.2 hb⟩
theorem OwnMon.lower {lo lo' : Nat} {w : World} {lv ev vv : Value} {m : Mon} (h : OwnMon lo w lv ev vv m) (hl : lo' ≤ lo) : OwnMon lo' w lv ev vv m := ⟨h.1.lower hl, own_lower h.2 hl⟩
theorem OwnMon.turns {base lo hi : Nat} {w w' : World} {lv ev vv : Value} {m : Mon} (h : OwnMon base w lv ev vv m) (ht : Turns lo hi w w') (hb : hi ≤ base) : OwnMon base w' lv ev vv m :=
 ⟨h.1.turns ht hb, owns_turns h.2 ht (fun b e => .inr (Nat.le_trans hb (h.2.lt b e).1))⟩
theorem OwnMon.at {lo : Nat} {w : World} {lv ev vv : Value} {m : Mon} (h : OwnMon lo w lv ev vv m) : MonIn lo w lv ev vv m :=
 ⟨SliceK.of_owns (enc := encS) (e := 9) encS_len rfl (by rw [flat_encS]; exact h.1.1), SliceK.of_owns (enc := encE) (e := 67) encE_len rfl h.1.2, SliceK.of_owns (enc := encI) (e := 2) encI_len rfl (by rw [flat_encI]; exact h.2)⟩

theorem blk5 {w : World} {b : Nat} {c0 c1 c2 c3 c4 : Value} {T : TypeId} (h : Blk w b [c0, c1, c2, c3, c4] T) :
  w.cell? ⟨b, 0, none⟩ = some c0 ∧ w.cell? ⟨b, 1, none⟩ = some c1 ∧ w.cell? ⟨b, 2, none⟩ = some c2 ∧ w.cell? ⟨b, 3, none⟩ = some c3 ∧ w.cell? ⟨b, 4, none⟩ = some c4 :=
 ⟨h.cell 0 rfl, h.cell 1 rfl, h.cell 2 rfl, h.cell 3 rfl, h.cell 4 rfl⟩

end Go.Proofs.YtmhpfmanagbggaaGreatDoor

namespace Go.Proofs.YtmhpfmanagbggaaGreatDoor
open Go Go.RowKit

noncomputable section
def nxW (t p : Lts) (c d : List Bool) (r : WSt) (k : Nat) : Option WSt :=
 if vdL p c d r.1 r.2 = 0 then (if nextS t r.1 ((k : Int) + 1) = [] then none else some (nextS t r.1 ((k : Int) + 1), goTo p r.2 (t.labels.getD (k + 1) ByteArray.empty))) else none
def jobW (t p : Lts) (c d : List Bool) : WJob := ⟨(firstS t, p.initial), nxW t p c d, t.labels.length - 1⟩
end
/-- What a row is. -/
structure QW (t p : Lts) (r : WSt) : Prop where
 ne : r.1 ≠ []
 low : ∀ x ∈ r.1, 0 ≤ x ∧ x < t.states
 asc : r.1.Pairwise (· < ·)
 y0 : -1 ≤ r.2
 y1 : r.2 < p.states
theorem nxW_open {t p : Lts} {c d : List Bool} {r : WSt} {k : Nat} (h : vdL p c d r.1 r.2 = 0) (hn : nextS t r.1 ((k : Int) + 1) ≠ []) : nxW t p c d r k = some (nextS t r.1 ((k : Int) + 1), goTo p r.2 (t.labels.getD (k + 1) ByteArray.empty)) := by unfold nxW; rw [if_pos h, if_neg hn]
theorem nxW_empty {t p : Lts} {c d : List Bool} {r : WSt} {k : Nat} (hn : nextS t r.1 ((k : Int) + 1) = []) : nxW t p c d r k = none := by unfold nxW; rw [if_pos hn]; split <;> rfl
theorem nxW_shut {t p : Lts} {c d : List Bool} {r : WSt} (h : vdL p c d r.1 r.2 ≠ 0) (k : Nat) : nxW t p c d r k = none := by unfold nxW; rw [if_neg h]
theorem vdL_range (p : Lts) (c d : List Bool) (xs : List Int) (y : Int) : 0 ≤ vdL p c d xs y ∧ vdL p c d xs y ≤ 2 := by
 unfold vdL
 split
 ·decide
 ·split
  ·decide
  ·split <;> decide
theorem qw_next {t p : Lts} (hv : Valid t) (hp : Valid p) {cur : List Int} {k : Int} {q : Int} {l : ByteArray} (h : nextS t cur k ≠ []) : QW t p (nextS t cur k, goTo p q l) := by
 have hs := nextS_is hv cur k
 exact ⟨h, fun x hx => clos.inside hv (fun y hy => behindP_in hv hy) x ((hs.mem x).1 hx), hs.asc, (goTo_range hp q l).1, (goTo_range hp q l).2⟩
theorem qw_first {t p : Lts} (hv : Valid t) (hp : Valid p) : QW t p (firstS t, p.initial) := by
 have h := (DGood.start hv).rows (firstS t) (by simp [dAt])
 exact ⟨h.2.2, h.1, h.2.1, by have := hp.in0; show -1 ≤ p.initial; omega, hp.in1⟩
theorem qw_keep {t p : Lts} (hv : Valid t) (hp : Valid p) (c d : List Bool) : WKeep (jobW t p c d) (QW t p) := by
 refine ⟨qw_first hv hp, fun cur k r _ _ h => ?_⟩
 change nxW t p c d cur k = some r at h
 by_cases h0 : vdL p c d cur.1 cur.2 = 0
 ·by_cases hn : nextS t cur.1 ((k : Int) + 1) = []
  ·rw [nxW_empty hn] at h; cases h
  ·rw [nxW_open h0 hn] at h
   rw [← Option.some.inj h]
   exact qw_next hv hp hn
 ·rw [nxW_shut h0] at h; cases h
/-- The monitor found. -/
def monW (t p : Lts) (c d : List Bool) (st : WNet) : Mon := ⟨⟨st.rows.length, 0, t.labels, st.edges⟩, st.rows.map fun r => vdL p c d r.1 r.2⟩
def MonZ : Mon := ⟨⟨0, 0, [], []⟩, []⟩
def MkMIs (t p : Lts) (m : Mon) (code : Int) : Prop :=
 (¬ (Valid t ∧ Valid p) ∧ m = MonZ ∧ code = 1) ∨ (Valid t ∧ Valid p ∧ ¬ Single p ∧ m = MonZ ∧ code = 6)
  ∨ (Valid t ∧ Valid p ∧ Single p ∧ ∃ c d, LvIs t p c ∧ Rest t p (List.replicate (t.states.toNat * p.states.toNat) true) d ∧ ((WFull (jobW t p c d) ∧ m = MonZ ∧ code = 5) ∨ (∃ st, PWOk (jobW t p c d) st ∧ m = monW t p c d st ∧ code = 0)))
theorem MkMIs.unique {t p : Lts} {m m' : Mon} {code code' : Int} (h : MkMIs t p m code) (k : MkMIs t p m' code') : m = m' ∧ code = code' := by
 rcases h with ⟨h1, h2, h3⟩ | ⟨h1, h2, h3, h4, h5⟩ | ⟨h1, h2, h3, c, d, hc, hd, h4⟩ <;> rcases k with ⟨k1, k2, k3⟩ | ⟨k1, k2, k3, k4, k5⟩ | ⟨k1, k2, k3, c', d', kc, kd, k4⟩
 ·exact ⟨h2.trans k2.symm, h3.trans k3.symm⟩
 ·exact absurd (And.intro k1 k2) h1
 ·exact absurd (And.intro k1 k2) h1
 ·exact absurd (And.intro h1 h2) k1
 ·exact ⟨h4.trans k4.symm, h5.trans k5.symm⟩
 ·exact absurd k3 h3
 ·exact absurd (And.intro h1 h2) k1
 ·exact absurd h3 k3
 have e1 := hc.unique h1 h2 kc
 have e2 := hd.unique kd
 subst e1 e2
 rcases h4 with ⟨h5, h6, h7⟩ | ⟨st, h5, h6, h7⟩ <;> rcases k4 with ⟨k5, k6, k7⟩ | ⟨st', k5, k6, k7⟩
 ·exact ⟨h6.trans k6.symm, h7.trans k7.symm⟩
 ·exact absurd h5 k5.not_full
 ·exact absurd k5 h5.not_full
 ·have := h5.1.unique k5.1
  subst this
  exact ⟨h6.trans k6.symm, h7.trans k7.symm⟩
theorem MkMIs.few {t p : Lts} {m : Mon} {code : Int} (h : MkMIs t p m code) : m.sys.labels.length ≤ 12 ∧ m.sys.edges.length ≤ 440 ∧ m.vs.length ≤ 40 := by
 have hz : MonZ.sys.labels.length ≤ 12 ∧ MonZ.sys.edges.length ≤ 440 ∧ MonZ.vs.length ≤ 40 := ⟨by decide, by decide, by decide⟩
 rcases h with ⟨-, rfl, -⟩ | ⟨-, -, -, rfl, -⟩ | ⟨h1, h2, -, c, d, -, -, ⟨-, rfl, -⟩ | ⟨st, h5, rfl, -⟩⟩
 ·exact hz
 ·exact hz
 ·exact hz
 ·have hl := h1.labels.most
  have hs := h5.2
  exact ⟨hl, by show st.edges.length ≤ 440; have := hs.2; omega, by show (st.rows.map _).length ≤ 40; rw [List.length_map]; exact hs.1⟩
/-- What MakeMonitor returns. -/
def RetMkM (t p : Lts) (w : World) (e : Ending) (w' : World) : Prop :=
 Below w.heap.size w w' ∧ ∃ (r : Mon) (code : Int) (lv ev vv : Value), e = .returned (.tuple #[.agg #[.int .i64 r.sys.states, .int .i64 r.sys.initial, lv, ev, vv], .int .i64 code]) ∧ MkMIs t p r code ∧ OwnMon w.heap.size w' lv ev vv r
theorem mkm_none {t p : Lts} {w w' : World} {code : Int} (hb : Below w.heap.size w w') (h : MkMIs t p MonZ code) : RetMkM t p w (.returned (.tuple #[.agg #[.int .i64 0, .int .i64 0, .slice none 0 0, .slice none 0 0, .slice none 0 0], .int .i64 code])) w' :=
 ⟨hb, MonZ, code, _, _, _, rfl, h, ⟨World.ownsRow_nil _ _ _ _, World.ownsRow_nil _ _ _ _⟩, World.ownsRow_nil _ _ _ _⟩
/-- A call that makes the monitor, or tells that it is too large. -/
def RetMake (t p : Lts) (w : World) (e : Ending) (w' : World) : Prop :=
 Below w.heap.size w w' ∧ ∃ c d, LvIs t p c ∧ Rest t p (List.replicate (t.states.toNat * p.states.toNat) true) d ∧
  ((WFull (jobW t p c d) ∧ e = .returned (.tuple #[.agg #[.int .i64 0, .int .i64 0, .slice none 0 0, .slice none 0 0, .slice none 0 0], .bool false]))
   ∨ ∃ st lv ev vv, PWOk (jobW t p c d) st ∧ e = .returned (.tuple #[.agg #[.int .i64 st.rows.length, .int .i64 0, lv, ev, vv], .bool true]) ∧ OwnMon w.heap.size w' lv ev vv (monW t p c d st))

end Go.Proofs.YtmhpfmanagbggaaGreatDoor
