/-
  What the library's Repeat computes of one truth value.
-/
import Derived.Test.YtaccfpacemhaaaaGreatDoorImpl17
import Derived.Laws.CopyOwn
import Derived.Deep.RegionLaw
namespace Go.Proofs.YtaccfpacemhaaaaGreatDoor
open Go Go.RowKit

theorem Mul_one (P : Nat) (w : World) (hP : P ≤ 1073741824) : Calls Tryz.prog 60 #[.int .u64 1, .int .u64 P] w fun e w' => e = .returned (.tuple #[.int .u64 0, .int .u64 P]) ∧ w = w' := by
  have := Tryz.bits_Mul 1 P (by decide) (by omega) w
  refine Calls.mono this ?_
  rintro e w' ⟨rfl, rfl⟩
  refine ⟨?_, rfl⟩
  rw [Nat.one_mul, Nat.div_eq_of_lt (by omega), Nat.mod_eq_of_lt (by omega)]
  rfl

theorem size_bool : (Tryz.prog.info? 4).map (·.size) = some 1 := by kernel_rfl

def halfB (n P : Nat) : List Value := List.replicate n (.bool true) ++ List.replicate (P - n) (.bool false)
theorem halfB_len {n P : Nat} (h : n ≤ P) : (halfB n P).length = P := by unfold halfB; simp; omega
theorem halfB_splice {n P m : Nat} (h : n + m ≤ P) : splice (halfB n P) n (List.replicate m (.bool true)) = halfB (n + m) P := by
  unfold splice halfB
  rw [List.take_append_of_le_length (by simp), List.take_of_length_le (by simp), List.drop_append]
  simp only [List.length_replicate, List.drop_replicate]
  rw [show n - (n + m) = 0 from by omega, List.replicate_zero, List.nil_append, ← List.append_assoc, List.replicate_append_replicate, show P - n - (n + m - n) = P - (n + m) from by omega]
theorem halfB_get {n P j : Nat} (h : j < n) : (halfB n P)[j]? = some (.bool true) := by
  unfold halfB
  rw [List.getElem?_append_left (by simpa using h), List.getElem?_replicate, if_pos h]

set_option maxRecDepth 100000 in
set_option maxHeartbeats 400000 in
theorem Repeat_any (P xb : Nat) (w : World) (h1 : 1 ≤ P) (h2 : P ≤ 40) (hx : w.cell? ⟨xb, 0, none⟩ = some (.bool true)) :
    Calls Tryz.prog 52 #[.slice (some ⟨xb, 0, none⟩) 1 1, .int .i64 P] w fun e w' => e = .returned (.slice (some ⟨w.heap.size, 0, none⟩) P P) ∧ Below w.heap.size w w' ∧ Blk w' w.heap.size (List.replicate P (.bool true)) 4 := by
  obtain ⟨i0, hi, hz0, hz1, hz2⟩ := info_parts info_bool
  have hxl := World.block_lt_of_cell? _ _ hx
  go_enter Tryz.func52, Tryz.ntmps52
  go_wp2_with fail
  refine (Mul_one P _ (by omega)).mono ?_
  rintro e w' ⟨rfl, rfl⟩
  go_wp2_with (at_make; refine wpList_make_full _ rfl _ _ 44 rfl w.heap.size 4 i0 _ 1 Tryz.underlying44 hi hz0 hz1 .i64 .i64 _ _ P rfl rfl rfl rfl ?_ ?_ ?_ ?_)
  · rw [hz2]; omega
  · simp [maxLen]; omega
  · exact Nat.le_refl _
  · intro w1 ho hg
    rw [toList_madeCells_one] at ho
    have hb1 : Below w.heap.size w w1 := (Below.refl _ w).grown hg (Nat.le_refl _) (fun _ h => by cases h)
    have hB : Blk w1 w.heap.size (halfB 0 P) 4 := by
      obtain ⟨h0, ⟨e9, -⟩ | ⟨g9, cap, cur, e9, -, hh, hc, hm, hs, ht⟩⟩ := ho
      · cases e9
      · simp only [Value.slice.injEq, Option.some.injEq, Addr.mk.injEq, and_true, true_and] at e9
        obtain ⟨e9, rfl⟩ := e9
        subst e9
        unfold Blk halfB
        rw [hh]
        rw [List.take_of_length_le (by simp; omega)] at ht
        simp only [List.replicate_zero, List.nil_append, Nat.sub_zero]
        rw [← ht]
    have hx1 := keeps hb1 hxl hx
    clear hi hz0 hz1 hz2 i0 ho hg
    have HW1 := Lib.hid hb1
    have hB' : w1.heap[w.heap.size]? = some (.cells (halfB 0 P).toArray 4 (0, 0)) := hB
    clear hb1 hx
    go_wp2_with (with_reducible show wpList _ _ _ (⟨some 33, _, _, _, _, _⟩ :: _) _ _; go_loud (refine wpList_copy_splice rfl (.tmp 31) (.tmp 32) 44 44 rfl 4 Tryz.underlying44 size_bool _ _ _ _ _ _ rfl rfl w.heap.size 0 (halfB 0 P) 4 hB' [.bool true] ?c1 ?c2 ?c3 ?c4 w.heap.size w HW1.out (Nat.le_refl _) ?_))
    case c1 => show 1 = Nat.min 1 P; exact (Nat.min_eq_left h1).symm
    case c2 =>
      intro j v hj
      match j, hj with
      | 0, hj => simp at hj; subst hj; exact hx1
      | j + 1, hj => simp at hj
    case c3 => rw [halfB_len (by omega)]; simpa using h1
    case c4 => intro v hv; simp at hv; subst hv; rfl
    intro w2 HG2 hb2
    have hB2 : Blk w2 w.heap.size (halfB 1 P) 4 := by
      have := HG2.out
      rw [show ([.bool true] : List Value) = List.replicate 1 (.bool true) from rfl, halfB_splice (by omega)] at this
      rw [Nat.zero_add] at this
      exact this
    have HB2 := Lib.hid hb2
    have HBB2 := Lib.hid hB2
    clear HG2 hb2 hB hB' hB2 HW1 hx1
    go_wp2_with fail
    go_loopw [8] (fun i wr => ∃ n : Nat, 1 ≤ n ∧ n ≤ P ∧ i = .int .i64 n ∧ Below w.heap.size w wr ∧ Blk wr w.heap.size (halfB n P) 4) (fun i _ => P - (intOf i).toNat)
    case atStart => exact ⟨1, Nat.le_refl _, h1, rfl, HB2.out, HBB2.out⟩
    case round =>
      obtain ⟨n, hn1, hn, rfl, hb, hB⟩ := hrel
      have HB := Lib.hid hb
      clear HB2 HBB2 hb
      by_cases hlt : n < P
      · have hlt' : (n : Int) < (P : Int) := by omega
        have hni : (n : Int) ≤ (P : Int) := by omega
        have hn0 : (0 : Int) ≤ (n : Int) := by omega
        obtain ⟨m, hm⟩ : ∃ m, m = min n (P - n) := ⟨_, rfl⟩
        have hmP : n + m ≤ P := by omega
        have hmn : m ≤ n := by omega
        have hm1 : 1 ≤ m := by omega
        have hB' : wr.drew.heap[w.heap.size]? = some (.cells (halfB n P).toArray 4 (0, 0)) := hB.below ((Below.refl _ _).drew)
        have hPn : ¬ P = n := by omega
        have HBD : Below w.heap.size w wr.drew := HB.out.drew
        have hrun := run_copy_row (P := Tryz.prog) wr.drew 44 44 3 4 w.heap.size n (P - n) (P - n) ⟨w.heap.size, 0, none⟩ n P (halfB n P).toArray 4 (List.replicate m (.bool true)) Tryz.underlying44 size_bool hB'
          (by rw [List.length_replicate]; exact hm) (fun j v hj => by
            rw [List.getElem?_replicate] at hj
            split at hj
            · next hlt2 =>
              cases hj
              have : Blk wr.drew w.heap.size (halfB n P) 4 := hB'
              have := this.cell j (halfB_get (P := P) (show j < n by omega))
              rw [Lib.add_plain, Nat.zero_add]
              exact this
            · cases hj) (by rw [List.length_replicate]; simp [halfB_len hn]; exact hmP) (fun v hv => by rw [List.eq_of_mem_replicate hv]; rfl)
        obtain ⟨W3, hW3⟩ : ∃ W3, W3 = wr.drew.setRow w.heap.size ((halfB n P).toArray.toList.take n ++ List.replicate m (Value.bool true) ++ (halfB n P).toArray.toList.drop (n + (List.replicate m (Value.bool true)).length)).toArray := ⟨_, rfl⟩
        rw [← hW3, List.length_replicate] at hrun
        have HB3 : Hid (Below w.heap.size w W3) := by unfold Hid; rw [hW3]; exact below_setRow HBD (Nat.le_refl _) _
        have HBK3 : Hid (Blk W3 w.heap.size (halfB (n + m) P) 4) := by
          unfold Hid
          rw [hW3, ← halfB_splice hmP]
          have := setRow_heap wr.drew w.heap.size _ ((halfB n P).toArray.toList.take n ++ List.replicate m (Value.bool true) ++ (halfB n P).toArray.toList.drop (n + (List.replicate m (Value.bool true)).length)).toArray 4 _ hB'
          unfold Blk
          simpa [splice] using this
        clear hW3 hB hB' HBD hm
        go_wp2_with fail
        go_region
        clear hrun
        go_wp2_with fail
        go_roundw
        case rel => exact ⟨n + m, by omega, hmP, by go_num, HB3.out, HBK3.out⟩
        case measure => simp [intOf]; omega
      · obtain rfl : n = P := by omega
        go_wp2_with fail
        go_ret
        refine ⟨rfl, HB.out, ?_⟩
        unfold halfB at hB
        rw [Nat.sub_self, List.replicate_zero, List.append_nil] at hB
        exact hB

end Go.Proofs.YtaccfpacemhaaaaGreatDoor
