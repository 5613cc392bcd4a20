/-
  What the implementation's step computes in a deterministic system.
-/
import Derived.Test.YtkffdamgekoifaaGreatDoorImpl13
import Derived.Test.YtkffdamgekoifaaGreatDoorImpl12
namespace Go.Proofs.YtkffdamgekoifaaGreatDoor
open Go Go.RowKit

set_option maxRecDepth 100000 in
set_option maxHeartbeats 1000000 in
theorem step_any (lo : Nat) (p : Lts) (lv ev : Value) (q : Int) (l : ByteArray) (w : World) (hvp : Valid p) (hsp : Single p) (hl : SliceK 1 encS lo w lv p.labels) (he : SliceK 3 encE lo w ev p.edges) :
    Calls Tryz.prog 63 #[.agg #[.int .i64 p.states, .int .i64 p.initial, lv, ev], .int .i64 q, .string l] w fun e w' => e = .returned (.int .i64 (goTo p q l)) ∧ Below w.heap.size w w' := by
  have HB0 := Lib.hid (box_below w #[.int .i64 p.states, .int .i64 p.initial, lv, ev] 34)
  by_cases hq : q < 0
  · have HF : Hid (goTo p q l = -1) := by unfold Hid goTo; rw [if_pos hq]
    clear hvp hsp hl he
    go_enter Tryz.func63, Tryz.ntmps63
    go_wp2_with fail
    go_ret
    exact ⟨ret_int HF.out.symm, HB0.out⟩
  · have hq' : ¬ q < 0 := hq
    have HF := Lib.hid (goTo_behind (p := p) (q := q) (by omega) l)
    have HB1 : Hid (Below w.heap.size w ((w.alloc (.cells #[.int .i64 p.states, .int .i64 p.initial, lv, ev] 34)).alloc (.cells #[.int .i64 q] 2))) := HB0.out.alloc HB0.out.size _
    have HS : Hid (SliceK 1 encI 0 ((w.alloc (.cells #[.int .i64 p.states, .int .i64 p.initial, lv, ev] 34)).alloc (.cells #[.int .i64 q] 2)) (.slice (some ⟨w.heap.size + 1, 0, none⟩) 1 1) [q]) := by
      have := World.ownsRow_lit (base := 0) (e := 2) (size := 1) (w.alloc (.cells #[.int .i64 p.states, .int .i64 p.initial, lv, ev] 34)) #[.int .i64 q] 1 (Nat.zero_le _) (by decide) (by simp)
      have e9 : (w.alloc (.cells #[.int .i64 p.states, .int .i64 p.initial, lv, ev] 34)).heap.size = w.heap.size + 1 := by simp
      rw [e9] at this
      exact SliceK.of_owns (e := 2) encI_len rfl (by rw [flat_encI]; simpa using this)
    have HC := Lib.hid (follow_one lo 0 p lv ev (.slice (some ⟨w.heap.size + 1, 0, none⟩) 1 1) q l _ hvp hsp (hl.below HB1.out) (he.below HB1.out) HS.out)
    clear hvp hsp hl he hq
    go_enter Tryz.func63, Tryz.ntmps63
    go_wp2_with fail
    refine Calls.mono HC.out ?_
    rintro e w1 ⟨v, rfl, hb1, ho1⟩
    have HB2 := Lib.hid (HB1.out.trans (hb1.mono HB1.out.size))
    clear hb1
    obtain ⟨av, cv, rfl, hc1, hc2⟩ := owns_slice ho1
    cases hbh : behind p q l with
    | nil =>
      have HG : Hid (goTo p q l = -1) := by unfold Hid; rw [HF.out, hbh]; rfl
      clear ho1 hc1
      simp only [List.length_nil]
      go_wp2_with fail
      go_ret
      exact ⟨ret_int HG.out.symm, HB2.out⟩
    | cons x r =>
      have HG : Hid (goTo p q l = x) := by unfold Hid; rw [HF.out, hbh]; rfl
      rw [hbh] at ho1
      have hsl : SliceK 1 encI 0 w1 (.slice av (x :: r).length cv) (x :: r) := SliceK.of_owns (e := 2) encI_len rfl (by rw [flat_encI]; exact own_lower ho1 (Nat.zero_le _))
      obtain ⟨a2, c2, e2, h2, h3, hrow⟩ := hsl
      simp only [Value.slice.injEq, true_and] at e2
      obtain ⟨rfl, rfl⟩ := e2
      obtain ⟨b1, o1, rfl, -, hbs, k1⟩ := hrow.one (i := 0) (by simp)
      simp only [encI, List.getElem?_cons_zero, List.getElem_cons_zero, Nat.add_zero] at k1
      have hlen : (0 : Int) < ((x :: r).length : Int) := by simp
      obtain ⟨n, hn⟩ : ∃ n, n = (x :: r).length := ⟨_, rfl⟩
      rw [← hn] at hlen
      simp only [← hn]
      clear ho1 hrow hc1 h2 hn hbh
      go_wp2_with fail
      go_ret
      exact ⟨ret_int HG.out.symm, HB2.out⟩

end Go.Proofs.YtkffdamgekoifaaGreatDoor
