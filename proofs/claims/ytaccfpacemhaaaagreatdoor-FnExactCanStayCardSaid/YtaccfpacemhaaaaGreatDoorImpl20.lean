/-
  What the implementation's list and CanStay compute.
-/
import Derived.Test.YtaccfpacemhaaaaGreatDoorImpl19
namespace Go.Proofs.YtaccfpacemhaaaaGreatDoor
open Go Go.RowKit

theorem pair_div {P x y : Nat} (hy : y < P) : (x * P + y) / P = x ∧ (x * P + y) % P = y := by
  have hP : 0 < P := by omega
  constructor
  · rw [Nat.mul_comm, Nat.mul_add_div hP, Nat.div_eq_of_lt hy, Nat.add_zero]
  · rw [Nat.mul_comm, Nat.mul_add_mod, Nat.mod_eq_of_lt hy]

set_option maxRecDepth 100000 in
set_option maxHeartbeats 2000000 in
theorem list_any (bm S P g : Nat) (gs : List Nat) (c : List Bool) (w : World) (hS : S ≤ 40) (hP : P ≤ 40) (hm : Mat w bm S P c g gs) :
    Calls Tryz.prog 22 #[.slice (some ⟨g, 0, none⟩) S S] w (MadeIntss (pairsTo P c c.length) w) := by
  obtain ⟨i0, hi, hz0, hz1, hz2⟩ := info_parts info_int64s
  have HM := Lib.hid hm
  have hcl : c.length = S * P := hm.size
  have hgl : gs.length = S := hm.len
  have hle : S * P ≤ 1600 := Nat.mul_le_mul hS hP
  clear hm
  go_enter Tryz.func22, Tryz.ntmps22
  go_wp2_with fail
  go_loopw [3, 10] (fun v i wr => ∃ (x : Nat) (vs : List Value), x ≤ S ∧ i = .int .i64 x ∧ Below w.heap.size w wr ∧ OwnIntss 56 2 w.heap.size wr v vs (pairsTo P c (x * P))) (fun _ i _ => S - (intOf i).toNat)
  case atStart =>
    exact ⟨0, [], Nat.zero_le _, rfl, Below.refl _ _, by rw [Nat.zero_mul]; rfl, World.ownsRow_nil _ _ _ _, (fun i h => by simp at h), (fun i j h => by simp at h), fun i h => by simp at h⟩
  case round =>
    obtain ⟨x, vs, hx, rfl, hb, ho⟩ := hrel
    have HB := Lib.hid hb
    have HO := Lib.hid ho
    clear hb ho
    by_cases hlt : x < S
    · have hxg : x < gs.length := by omega
      have m2 := (HM.out.below HB.out).rowCell x hxg
      obtain ⟨rb, hrb⟩ : ∃ rb, rb = gs[x] := ⟨_, rfl⟩
      rw [← hrb] at m2
      have HRB := Lib.hid hrb
      have hxi : (x : Int) < (S : Int) := by omega
      clear hrb
      go_wp2_with fail
      clear m2
      go_loopw [3, 17] (fun v i wr => ∃ (q : Nat) (vs : List Value), q ≤ P ∧ i = .int .i64 q ∧ Below w.heap.size w wr ∧ OwnIntss 56 2 w.heap.size wr v vs (pairsTo P c (x * P + q))) (fun _ i _ => P - (intOf i).toNat)
      case atStart => exact ⟨0, vs, Nat.zero_le _, rfl, HB.out, HO.out⟩
      case round =>
        obtain ⟨q, vs, hq, rfl, hb, ho⟩ := hrel
        clear HB HO
        have HB := Lib.hid hb
        have HO := Lib.hid ho
        have hsz := hb.size
        have hvl : vs.length ≤ x * P + q := by rw [ho.1]; exact pairsTo_len _ _ _
        clear hb ho
        by_cases hqt : q < P
        · have n3 := (HM.out.below HB.out).cell x q hxg hqt
          rw [← HRB.out] at n3
          have hqi : (q : Int) < (P : Int) := by omega
          have HPS := Lib.hid (pairsTo_succ P c (x * P + q))
          rw [(pair_div hqt).1, (pair_div hqt).2] at HPS
          have hk := pair_lt hlt hqt
          cases hg : c.getD (x * P + q) false
          · rw [hg] at n3 HPS
            clear hg
            go_wp2_with fail
            go_roundw
            case rel => exact ⟨q + 1, vs, by omega, by go_num, HB.out, by rw [← Nat.add_assoc, HPS.out]; simpa using HO.out⟩
            case measure => simp [intOf]; omega
          · rw [hg] at n3 HPS
            clear hg
            go_wp2_with (at_builtin; refine wpList_append_own _ rfl _ _ 27 rfl w.heap.size 56 i0 (.slice none 0 0) 1 24 Tryz.underlying27 hi hz0 hz1 hz2 rfl (by decide) _ _ _ rfl ((HO.out.2.1.alloc _).alloc _) ⟨wr.heap.size + 1, 0, none⟩ 1 1 [.slice (some ⟨wr.heap.size, 0, none⟩) 2 2] rfl rfl ?c1 ?c2 ?c3 ?c4 ?c5 ?_)
            case c2 => first | rfl | (intro u hu; simp at hu; subst hu; rfl)
            case c3 => simp [maxLen]; omega
            case c4 => omega
            case c5 => first | omega | (simp; omega)
            intro v' w3 ho1 hg1 _
            have HO2 : Hid (OwnIntss 56 2 w.heap.size w3 v' (vs ++ [.slice (some ⟨wr.heap.size, 0, none⟩) 2 2]) (pairsTo P c (x * P + q + 1))) := by
              rw [HPS.out]
              exact OwnIntss.push (B := wr.heap.size) (xs := [(x : Int), (q : Int)]) (by decide) HO.out (Nat.le_refl _) (((Below.refl _ _).alloc (Nat.le_refl _) _).alloc (by simp) _)
                ((World.ownsRow_lit (size := 1) wr #[.int .i64 x, .int .i64 q] 2 (Nat.le_refl _) (by simp [maxLen]) rfl).alloc _) hsz hg1 ho1
            have HB2 : Hid (Below w.heap.size w w3) := ((HB.out.alloc hsz _).alloc (by simp; omega) _).grown hg1 (by simp; omega) (fun b e => (HO.out.2.1.lt b e).1)
            clear ho1 hg1
            go_wp2_with fail
            go_roundw
            case rel => exact ⟨q + 1, _, by omega, by go_num, HB2.out, by rw [← Nat.add_assoc]; exact HO2.out⟩
            case measure => simp [intOf]; omega
        · obtain rfl : q = P := by omega
          go_wp2_with fail
          go_roundw
          case rel => exact ⟨x + 1, vs, by omega, by go_num, HB.out, by rw [Nat.succ_mul]; exact HO.out⟩
          case measure => simp [intOf]; omega
    · obtain rfl : x = S := by omega
      go_wp2_with fail
      go_ret
      exact ⟨_, vs, rfl, HB.out, by rw [hcl]; exact HO.out⟩

set_option maxRecDepth 100000 in
set_option maxHeartbeats 1000000 in
theorem stay_any (lo S P : Nat) (t p : Lts) (lv ev lv2 ev2 : Value) (w : World) (hO : Both lo S P t p lv ev lv2 ev2 w) :
    Calls Tryz.prog 21 #[.agg #[.int .i64 t.states, .int .i64 t.initial, lv, ev, .int .i64 p.states, .int .i64 p.initial, lv2, ev2]] w (MadeMat t p S P w) := by
  have HB := Lib.hid (box_below w #[.int .i64 t.states, .int .i64 t.initial, lv, ev, .int .i64 p.states, .int .i64 p.initial, lv2, ev2] 52)
  have HC := Lib.hid (settle_any lo w.heap.size S P t p lv ev lv2 ev2 _ (hO.below HB.out) (Blk.new w _ _))
  clear hO
  go_enter Tryz.func21, Tryz.ntmps21
  go_wp2_with fail
  refine Calls.mono HC.out ?_
  rintro e w2 ⟨c, bm, g, gs, rfl, hb2, hm, hr⟩
  have HB2 := Lib.hid (HB.out.trans (hb2.mono HB.out.size))
  have HM := Lib.hid hm
  have HR := Lib.hid hr
  clear hb2 hm hr
  go_wp2_with fail
  go_ret
  exact ⟨c, bm, g, gs, rfl, HB2.out, HM.out, HR.out⟩

end Go.Proofs.YtaccfpacemhaaaaGreatDoor
