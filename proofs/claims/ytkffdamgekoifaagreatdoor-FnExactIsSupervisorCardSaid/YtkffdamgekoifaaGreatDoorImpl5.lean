/-
  What the implementation's joined computes.
-/
import Derived.Test.YtkffdamgekoifaaGreatDoorImpl4
namespace Go.Proofs.YtkffdamgekoifaaGreatDoor
open Go Go.RowKit

def wordsOf (xs : List Int) : List ByteArray := xs.map fun n => ⟨(Lib.itoa n).toArray⟩

set_option maxHeartbeats 1000000 in
theorem joined_any (v : Value) (sep : ByteArray) (lo : Nat) (xs : List Int) (w : World) (hn : xs.length ≤ 1048576) (hb : ∀ i (h : i < xs.length), -9223372036854775808 ≤ xs[i] ∧ xs[i] ≤ 9223372036854775807) (hv : SliceK 1 encI lo w v xs) (g : Glob w)
    (hlen : (Lib.join ((wordsOf xs).map (·.data.toList)) sep.data.toList).length ≤ 1073741824) :
    Calls Tryz.prog 102 #[v, .string sep] w fun e w' => e = .returned (.string ⟨(Lib.join ((wordsOf xs).map (·.data.toList)) sep.data.toList).toArray⟩) ∧ Below w.heap.size w w' := by
  obtain ⟨a, ca, rfl, hna, hca, ha⟩ := hv
  obtain ⟨i0, hi, hz0, hz1, hz2⟩ := info_parts info_str
  have HBD := Lib.hid hb
  have G := Lib.hid g
  have HLEN := Lib.hid hlen
  clear hb g hlen
  go_enter Tryz.func102, Tryz.ntmps102
  go_wp2_with (at_make; refine wpList_make_full _ rfl _ _ 22 rfl w.heap.size 9 i0 _ 1 Tryz.underlying22 hi hz0 hz1 .i64 .i64 _ _ xs.length rfl rfl rfl rfl ?_ ?_ ?_ ?_)
  · rw [hz2]; omega
  · simp [maxLen]; omega
  · exact Nat.le_refl _
  · intro w1 ho hg
    rw [toList_madeCells_one] at ho
    have hb1 : Below w.heap.size w w1 := (Below.refl _ w).grown hg (Nat.le_refl _) (fun _ h => by cases h)
    clear hi hz0 hz1 hz2 i0
    have HO := Lib.hid ho
    clear ho hg
    go_wp2_with fail
    have hwl : (wordsOf xs).length = xs.length := by simp [wordsOf]
    go_loopw [13] (fun i wr => ∃ k : Nat, k ≤ xs.length ∧ i = .int .i64 k ∧ Below w.heap.size w wr ∧ w.heap.size < wr.heap.size ∧ wr.ownsRow w.heap.size 9 1 (.slice (some ⟨w.heap.size, 0, none⟩) xs.length xs.length) xs.length (((wordsOf xs).take k).map .string ++ List.replicate ((wordsOf xs).length - k) (.string ⟨#[]⟩))) (fun i _ => xs.length - (intOf i).toNat)
    case atStart => exact ⟨0, Nat.zero_le _, rfl, hb1, (HO.out.lt _ rfl).2, by simpa [hwl] using HO.out⟩
    case round =>
      obtain ⟨k, hk, rfl, hbl, hsl, ho⟩ := hrel
      clear HO hb1
      have HBL := Lib.hid hbl
      have HO1 := Lib.hid ho
      have hsz := hbl.size
      clear ho hbl
      by_cases hlt : k < xs.length
      · obtain ⟨b1, o1, rfl, -, h1, c1⟩ := (ha.below HBL.out).one hlt
        simp only [encI, List.getElem?_cons_zero] at c1
        clear ha
        go_wp2_with fail
        refine (Decimal_any _ _ (HBD.out k hlt).1 (HBD.out k hlt).2 (G.out.below HBL.out)).mono ?_
        rintro e w2 ⟨rfl, hb2⟩
        have hlt' : k < (wordsOf xs).length := by omega
        have ho3 := owns_below HO1.out hb2
        have c2 := ho3.cellAt k (by omega)
        rw [filled_get _ _ _ _ hlt'] at c2
        have c3 := ho3.frozenAt k
        have ho2 := ho3.stored k (.string (wordsOf xs)[k])
        rw [filled_set _ _ _ _ hlt'] at ho2
        have hwk : (wordsOf xs)[k] = ⟨(Lib.itoa xs[k]).toArray⟩ := by simp [wordsOf]
        rw [hwk] at ho2
        have HO := Lib.hid ho2
        have HB2 := Lib.hid (HBL.out.trans (hb2.mono hsz))
        have hs2 := hb2.size
        clear ho2 ho3 hb2 HO1 HBL c1
        go_wp2
        go_roundw
        case rel => exact ⟨k + 1, by omega, by go_num, HB2.out.setCell (by exact Nat.le_refl _) _, by simp; omega, HO.out.1⟩
        case measure => simp [intOf]; omega
      · clear ha
        obtain rfl : k = xs.length := by omega
        have ho4 : wr.ownsRow w.heap.size 9 1 (.slice (some ⟨w.heap.size, 0, none⟩) (wordsOf xs).length (wordsOf xs).length) (wordsOf xs).length ((wordsOf xs).flatMap encS) := by
          have := HO1.out
          rw [flat_encS, hwl]
          rw [hwl, ← hwl, List.take_length, Nat.sub_self, List.replicate_zero, List.append_nil, hwl] at this
          exact this
        have HC : Hid (∀ (j : Nat) x, (wordsOf xs)[j]? = some x → wr.cell? ⟨w.heap.size, 0 + j, none⟩ = some (.string x)) := by
          intro j x hx
          obtain ⟨hj, rfl⟩ := List.getElem?_eq_some_iff.1 hx
          have := ho4.cellAt j (by omega)
          rw [Nat.zero_add, this, flat_encS]
          simp [hj]
        clear ho4
        have HJ := Tryz.strings_Join w.heap.size 0 xs.length (wordsOf xs) sep wr HC.out hsl (by omega) (by omega) (Nat.le_trans HLEN.out (by decide))
        rw [hwl] at HJ
        have HJJ := Lib.hid HJ
        clear HJ
        go_wp2_with fail
        refine Calls.mono HJJ.out ?_
        rintro e w2 ⟨rfl, hb2⟩
        have HB2 := Lib.hid (HBL.out.trans (hb2.mono hsz))
        clear hb2
        go_wp2_with fail
        go_ret
        exact ⟨rfl, HB2.out⟩

end Go.Proofs.YtkffdamgekoifaaGreatDoor
