/-
  What the implementation's closures on a matrix of pairs compute.
-/
import Derived.Test.YtaccfpacemhaaaaGreatDoorImpl14
namespace Go.Proofs.YtaccfpacemhaaaaGreatDoor
open Go Go.RowKit

/-- A matrix of booleans behind a variable's box, each row in a block of its own. -/
structure Mat (w : World) (bm S P : Nat) (c : List Bool) (g : Nat) (gs : List Nat) : Prop where
  box : Blk w bm [.slice (some ⟨g, 0, none⟩) S S] 50
  rows : Blk w g (gs.map fun b => Value.slice (some ⟨b, 0, none⟩) P P) 44
  len : gs.length = S
  nodup : gs.Nodup
  size : c.length = S * P
  row : ∀ x (h : x < gs.length), Blk w gs[x] (((c.drop (x * P)).take P).map .bool) 4

theorem Mat.below {w w' : World} {bm S P : Nat} {c : List Bool} {g : Nat} {gs : List Nat} (h : Mat w bm S P c g gs) (hb : Below w.heap.size w w') : Mat w' bm S P c g gs :=
  ⟨h.box.below hb, h.rows.below hb, h.len, h.nodup, h.size, fun x hx => (h.row x hx).below hb⟩

theorem Mat.belowB {B : Nat} {w w' : World} {bm S P : Nat} {c : List Bool} {g : Nat} {gs : List Nat} (h : Mat w bm S P c g gs) (hb : Below B w w') (h1 : bm < B) (h2 : g < B) (h3 : ∀ x ∈ gs, x < B) : Mat w' bm S P c g gs :=
  ⟨h.box.belowB hb h1, h.rows.belowB hb h2, h.len, h.nodup, h.size, fun x hx => (h.row x hx).belowB hb (h3 _ (List.getElem_mem _))⟩

theorem Mat.cell {w : World} {bm S P : Nat} {c : List Bool} {g : Nat} {gs : List Nat} (h : Mat w bm S P c g gs) (x y : Nat) (hx : x < gs.length) (hy : y < P) : w.cell? ⟨gs[x], y, none⟩ = some (.bool (c.getD (x * P + y) false)) := by
  refine (h.row x hx).cell y ?_
  have hl := pair_lt (S := S) (P := P) (k := x) (q := y) (by rw [← h.len]; exact hx) hy
  have hc : x * P + y < c.length := by rw [h.size]; exact hl
  rw [List.getElem?_map, List.getElem?_take, if_pos hy, List.getElem?_drop, List.getElem?_eq_getElem hc, List.getD_eq_getElem?_getD, List.getElem?_eq_getElem hc]
  rfl

theorem Mat.rowCell {w : World} {bm S P : Nat} {c : List Bool} {g : Nat} {gs : List Nat} (h : Mat w bm S P c g gs) (x : Nat) (hx : x < gs.length) : w.cell? ⟨g, x, none⟩ = some (.slice (some ⟨gs[x], 0, none⟩) P P) :=
  h.rows.cell x (by rw [List.getElem?_map, List.getElem?_eq_getElem hx]; rfl)

theorem drop_take_set {α : Type} (c : List α) (x y P : Nat) (v : α) (hy : y < P) : ((c.set (x * P + y) v).drop (x * P)).take P = ((c.drop (x * P)).take P).set y v := by
  apply List.ext_getElem?
  intro i
  rw [List.getElem?_take, List.getElem?_drop, List.getElem?_set, List.getElem?_set, List.getElem?_take, List.getElem?_drop]
  simp only [List.length_take, List.length_drop]
  by_cases hi : i < P
  · by_cases e : y = i
    · subst e
      by_cases hl : x * P + y < c.length
      · simp [hi, hl]; omega
      · simp [hi, hl]; omega
    · simp [hi, e]
  · have : ¬ y = i := by omega
    simp [hi, this]
theorem drop_take_other {α : Type} (c : List α) (x x' y P : Nat) (v : α) (hy : y < P) (hne : x ≠ x') : ((c.set (x * P + y) v).drop (x' * P)).take P = (c.drop (x' * P)).take P := by
  apply List.ext_getElem?
  intro i
  rw [List.getElem?_take, List.getElem?_drop, List.getElem?_set, List.getElem?_take, List.getElem?_drop]
  by_cases hi : i < P
  · have : ¬ x * P + y = x' * P + i := by
      intro e
      rcases Nat.lt_or_gt_of_ne hne with h | h
      · have := Nat.mul_le_mul_right P (Nat.succ_le_of_lt h)
        rw [Nat.succ_mul] at this
        omega
      · have := Nat.mul_le_mul_right P (Nat.succ_le_of_lt h)
        rw [Nat.succ_mul] at this
        omega
    simp [this]
  · simp [hi]

theorem Mat.set {w : World} {bm S P : Nat} {c : List Bool} {g : Nat} {gs : List Nat} (h : Mat w bm S P c g gs) (x y : Nat) (hx : x < gs.length) (hy : y < P) (v : Bool) : Mat (w.setCell ⟨gs[x], y, none⟩ (.bool v)) bm S P (c.set (x * P + y) v) g gs := by
  have hr := h.row x hx
  have hne1 : bm ≠ gs[x] := by
    intro e
    have h1 := h.box
    unfold Blk at h1 hr
    rw [e, hr] at h1
    simp at h1
  have hne2 : g ≠ gs[x] := by
    intro e
    have h1 := h.rows
    unfold Blk at h1 hr
    rw [e, hr] at h1
    simp at h1
  refine ⟨h.box.setOther _ _ hne1, h.rows.setOther _ _ hne2, h.len, h.nodup, by rw [List.length_set]; exact h.size, fun x' hx' => ?_⟩
  by_cases e : x = x'
  · subst e
    rw [drop_take_set _ _ _ _ _ hy, List.map_set]
    exact hr.set y _
  · rw [drop_take_other _ _ _ _ _ _ hy e]
    exact (h.row x' hx').setOther _ _ (fun e' => e ((List.getElem_inj h.nodup).1 e'.symm))

theorem has_any (bm S P : Nat) (c : List Bool) (g : Nat) (gs : List Nat) (v : Nat) (q : Int) (w : World) (hm : Mat w bm S P c g gs) (hv : v < S) (hq : q < P) :
    Calls Tryz.prog 53 #[.int .i64 v, .int .i64 q, .pointer (some ⟨bm, 0, none⟩)] w fun e w' => e = .returned (.bool (decide (0 ≤ q) && c.getD (v * P + q.toNat) false)) ∧ w = w' := by
  by_cases h0 : 0 ≤ q
  · obtain ⟨y, rfl⟩ : ∃ y : Nat, q = y := ⟨q.toNat, by omega⟩
    have hy : y < P := by omega
    have hx : v < gs.length := by rw [hm.len]; exact hv
    have c0 := hm.box.cell 0 rfl
    have c1 := hm.rowCell v hx
    have c2 := hm.cell v y hx hy
    have HF : Hid ((decide (0 ≤ (y : Int)) && c.getD (v * P + (y : Int).toNat) false) = c.getD (v * P + y) false) := by unfold Hid; simp
    have hvi : (v : Int) < (S : Int) := by omega
    clear h0 hm
    obtain ⟨b, hb⟩ : ∃ b, c.getD (v * P + y) false = b := ⟨_, rfl⟩
    rw [hb] at c2 HF
    clear hb
    go_enter Tryz.func53, Tryz.ntmps53
    go_wp2_with fail
    go_ret
    exact ⟨ret_bool HF.out.symm, rfl⟩
  · have HF : Hid ((decide (0 ≤ q) && c.getD (v * P + q.toNat) false) = false) := by unfold Hid; rw [decide_eq_false h0, Bool.false_and]
    clear hm
    go_enter Tryz.func53, Tryz.ntmps53
    go_wp2_with fail
    go_ret
    exact ⟨ret_bool HF.out.symm, rfl⟩

theorem any1_any (bm fb ib S P : Nat) (c : List Bool) (g : Nat) (gs : List Nat) (v : Nat) (q : Int) (b : Bool) (w : World) (hm : Mat w bm S P c g gs) (hv : v < S) (hq : q < P)
    (hf : Blk w fb [.bool b] 4) (hi : w.cell? ⟨ib, 0, none⟩ = some (.func (.func 53) #[] #[.pointer (some ⟨bm, 0, none⟩)])) :
    Calls Tryz.prog 55 #[.int .i64 v, .int .i64 q, .pointer (some ⟨fb, 0, none⟩), .pointer (some ⟨ib, 0, none⟩)] w fun e w' => e = .returned (.tuple #[]) ∧ w' = w.setCell ⟨fb, 0, none⟩ (.bool (b || (decide (0 ≤ q) && c.getD (v * P + q.toNat) false))) := by
  have f0 := hf.cell 0 rfl
  have f1 := hf.frozen 0
  cases b
  · have HM := Lib.hid hm
    clear hm hf
    go_enter Tryz.func55, Tryz.ntmps55
    go_wp2_with fail
    refine (has_any bm S P c g gs v q _ HM.out hv hq).mono ?_
    rintro e w' ⟨rfl, rfl⟩
    go_wp2_with fail
    go_end0
    exact ⟨rfl, by simp⟩
  · clear hm hf
    go_enter Tryz.func55, Tryz.ntmps55
    go_wp2_with fail
    go_end0
    exact ⟨rfl, by simp⟩

end Go.Proofs.YtaccfpacemhaaaaGreatDoor
