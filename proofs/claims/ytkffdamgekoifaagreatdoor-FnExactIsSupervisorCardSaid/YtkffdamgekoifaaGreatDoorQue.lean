/-
  A queue in a slice of the call's own: popped in front (q = q[1:]), pushed behind (q = append(q, x)). Elements of one cell.
-/
import Derived.Test.YtkffdamgekoifaaGreatDoorBase
import Derived.ArgAppend
namespace Go.Proofs.YtkffdamgekoifaaGreatDoor
open Go Go.RowKit

/-- The slice v holds xs, from some place on of a block of the call's own. -/
def TailRow (w : World) (base : Nat) (e : TypeId) (v : Value) (xs : List Value) : Prop :=
  (v = .slice none 0 0 ∧ xs = []) ∨
  ∃ g o cap cur, v = .slice (some ⟨g, o, none⟩) xs.length cap ∧ base ≤ g ∧ w.heap[g]? = some (.cells cur e (0, 0)) ∧ xs.length ≤ cap ∧ cap ≤ maxLen ∧ o + cap ≤ cur.size ∧ ∀ j (h : j < xs.length), cur[o + j]? = some xs[j]

theorem TailRow.of_owns {w : World} {base : Nat} {e : TypeId} {v : Value} {xs : List Value} (h : w.ownsRow base e 1 v xs.length xs) : TailRow w base e v xs := by
  rcases h.2 with ⟨h1, h2⟩ | ⟨g, cap, cur, h1, h2, h3, h4, h5, h6, h7⟩
  · exact .inl ⟨h1, List.eq_nil_of_length_eq_zero h2⟩
  · refine .inr ⟨g, 0, cap, cur, h1, h2, h3, h4, h5, by omega, fun j hj => ?_⟩
    rw [Nat.mul_one] at h7
    have h8 : (cur.toList.take xs.length)[j]? = xs[j]? := by rw [h7]
    rw [List.getElem?_take, if_pos hj, List.getElem?_eq_getElem hj] at h8
    rw [Nat.zero_add]
    simpa using h8

theorem TailRow.nil (w : World) (base : Nat) (e : TypeId) : TailRow w base e (.slice none 0 0) [] := .inl ⟨rfl, rfl⟩

theorem TailRow.kept {w w' : World} {base : Nat} {e : TypeId} {v : Value} {xs : List Value} {row : Option Nat} (h : TailRow w base e v xs) (hg : w.grownBy w' row) (hne : v.ownBlock = none ∨ v.ownBlock ≠ row) : TailRow w' base e v xs := by
  rcases h with h | ⟨g, o, cap, cur, rfl, h2, h3, rest⟩
  · exact .inl h
  · refine .inr ⟨g, o, cap, cur, rfl, h2, ?_, rest⟩
    rw [hg.block g (Array.getElem?_eq_some_iff.1 h3).1 (by simpa [Value.ownBlock] using hne)]
    exact h3
theorem TailRow.below {w w' : World} {base : Nat} {e : TypeId} {v : Value} {xs : List Value} (h : TailRow w base e v xs) (hb : Below w.heap.size w w') : TailRow w' base e v xs := by
  rcases h with h | ⟨g, o, cap, cur, rfl, h2, h3, rest⟩
  · exact .inl h
  · exact .inr ⟨g, o, cap, cur, rfl, h2, (hb.block g (Array.getElem?_eq_some_iff.1 h3).1).trans h3, rest⟩
theorem TailRow.lt {w : World} {base : Nat} {e : TypeId} {v : Value} {xs : List Value} (h : TailRow w base e v xs) : ∀ k, v.ownBlock = some k → base ≤ k ∧ k < w.heap.size := by
  intro k hk
  rcases h with ⟨rfl, _⟩ | ⟨g, o, cap, cur, rfl, h2, h3, _⟩
  · simp [Value.ownBlock] at hk
  · simp [Value.ownBlock] at hk
    subst hk
    exact ⟨h2, (Array.getElem?_eq_some_iff.1 h3).1⟩

/-- The first element's cell, and the slice's form. -/
theorem TailRow.head {w : World} {base : Nat} {e : TypeId} {v : Value} {x : Value} {xs : List Value} (h : TailRow w base e v (x :: xs)) :
    ∃ g o cap, v = .slice (some ⟨g, o, none⟩) (xs.length + 1) cap ∧ base ≤ g ∧ g < w.heap.size ∧ xs.length + 1 ≤ cap ∧ cap ≤ maxLen ∧ w.cell? ⟨g, o, none⟩ = some x := by
  rcases h with ⟨_, h⟩ | ⟨g, o, cap, cur, rfl, h2, h3, h4, h5, h6, h7⟩
  · cases h
  · refine ⟨g, o, cap, by simp, h2, (Array.getElem?_eq_some_iff.1 h3).1, by simpa using h4, h5, ?_⟩
    have := h7 0 (by simp)
    rw [cell_of_row w g o cur e (0, 0) h3]
    simpa using this
/-- Popped. -/
theorem TailRow.pop {w : World} {base : Nat} {e : TypeId} {g o cap : Nat} {x : Value} {xs : List Value} (h : TailRow w base e (.slice (some ⟨g, o, none⟩) (xs.length + 1) cap) (x :: xs)) :
    TailRow w base e (.slice (some ⟨g, o + 1, none⟩) xs.length (cap - 1)) xs := by
  rcases h with ⟨_, h⟩ | ⟨g', o', cap', cur, h1, h2, h3, h4, h5, h6, h7⟩
  · cases h
  · simp only [Value.slice.injEq, Option.some.injEq, Addr.mk.injEq, and_true, List.length_cons, true_and] at h1
    obtain ⟨⟨rfl, rfl⟩, rfl⟩ := h1
    simp only [List.length_cons] at h4
    refine .inr ⟨g, o + 1, cap - 1, cur, rfl, h2, h3, by omega, by omega, by omega, fun j hj => ?_⟩
    have := h7 (j + 1) (by simpa using hj)
    rw [show o + 1 + j = o + (j + 1) from by omega]
    simpa using this
/-- Popped empty: the slice's address may have stayed. -/
theorem TailRow.empty {w : World} {base : Nat} {e : TypeId} {g o cap : Nat} {xs : List Value} {v : Value} (h : TailRow w base e (.slice (some ⟨g, o, none⟩) xs.length cap) xs) (o' : Nat) (hv : v = .slice (some ⟨g, o', none⟩) 0 0) (ho : o' ≤ o) : TailRow w base e v [] := by
  rcases h with ⟨h, _⟩ | ⟨g', o2, cap', cur, h1, h2, h3, h4, h5, h6, h7⟩
  · simp at h
  · simp only [Value.slice.injEq, Option.some.injEq, Addr.mk.injEq, and_true, true_and] at h1
    obtain ⟨⟨rfl, rfl⟩, rfl⟩ := h1
    exact .inr ⟨g, o', 0, cur, hv, h2, h3, by simp, by simp [maxLen], by omega, fun j hj => by simp at hj⟩

theorem setCells_one (w : World) (b o : Nat) (u : Value) : w.setCells b o [u] = w.setCell ⟨b, o, none⟩ u := rfl

theorem wpList_append_tail {P : Program} (w : World) {ops : Array Oper} {rest : List Oper} {o : Oper} {a : Act} {Q : Exit → Act → World → Prop}
    (hg : o.guard = none) (s x : Operand) (t : TypeId) (hop : o.op = Op.call { callee := Callee.builtin Builtin.append, args := #[s, x], argTypes := #[t, t] })
    (base : Nat) (e : TypeId) (i : TypeInfo) (z : Value) (bytes : Nat) (h1 : P.underlying t = some (.slice e)) (h2 : P.info? e = some i) (h3 : i.zero = some z) (h4 : i.size = 1) (h5 : i.bytes = bytes) (h6 : z.cells.size = 1)
    (v : Value) (xs : List Value) (hs : a.eval s = v) (hown : TailRow w base e v xs)
    (ad : Addr) (u : Value) (hx : a.eval x = .slice (some ad) 1 1) (hc : w.cell? ad = some u) (h1c : u.oneCell' = true)
    (b1 : xs.length + 1 ≤ maxLen) (b2 : (xs.length + 1) * bytes ≤ 140737488355328) (hbase : base ≤ w.heap.size)
    (hK : ∀ v' w', TailRow w' base e v' (xs ++ [u]) → w.grownBy w' v.ownBlock → wpList P ops Q rest (a.put o.dst v') w') :
    wpList P ops Q (o :: rest) a w := by
  have hcs : ∀ j u', [u][j]? = some u' → w.cell? (ad.add j) = some u' := by
    intro j u' hj
    match j, hj with
    | 0, hj =>
      simp only [List.getElem?_cons_zero, Option.some.injEq] at hj
      subst hj
      have : ad.add 0 = ad := by cases ad; simp [Addr.add]
      rw [this]; exact hc
    | j + 1, hj => simp at hj
  rcases hown with ⟨rfl, rfl⟩ | ⟨g, off, cap, cur, rfl, k2, k3, k4, k5, k6, k7⟩
  · refine wpList_append_own w hg s x t hop base e i z 1 bytes h1 h2 h3 h4 h5 h6 (by omega) (.slice none 0 0) 0 [] hs (World.ownsRow_nil w base e 1) ad 1 1 [u] hx rfl hcs (by simpa using h1c) (by simpa using b1) (by simpa using b2) hbase ?_
    intro v' w' r1 r2 _
    exact hK v' w' (TailRow.of_owns r1) r2
  · have hcell : ∀ j u', xs[j]? = some u' → w.cell? ⟨g, off + j, none⟩ = some u' := by
      intro j u' hj
      obtain ⟨hlt, rfl⟩ := List.getElem?_eq_some_iff.1 hj
      rw [cell_of_row w g (off + j) cur e (0, 0) k3]
      exact k7 j hlt
    refine wpList_append_arg w hg s x t hop e i z 1 bytes h1 h2 h3 h4 h5 h6 (by omega) g off xs.length cap xs hs (by omega) hcell ad 1 1 [u] hx rfl hcs (by simpa using h1c) ?_ b1 b2 ?_ ?_
    · intro hr j hj
      simp only [List.length_singleton] at hj
      have hlt : off + xs.length * 1 + j < cur.size := by omega
      refine ⟨?_, ?_⟩
      · rw [cell_of_row w g _ cur e (0, 0) k3, Array.getElem?_eq_getElem hlt]; rfl
      · simp [World.frozen?, k3]
    · intro hr
      rw [setCells_one, Nat.mul_one]
      refine hK _ _ (.inr ⟨g, off, cap, cur.setIfInBounds (off + xs.length) u, by simp, k2, ?_, by simpa using hr, k5, by simpa using k6, ?_⟩) (grown_setCell w ⟨g, off + xs.length, none⟩ u)
      · have hlt := (Array.getElem?_eq_some_iff.1 k3).1
        simp only [World.setCell]
        rw [Array.getElem?_modify, if_pos rfl, k3]
        rfl
      · intro j hj
        rw [List.length_append, List.length_singleton] at hj
        by_cases e1 : j = xs.length
        · subst e1
          rw [Array.getElem?_setIfInBounds_self_of_lt (by omega)]
          simp
        · rw [Array.getElem?_setIfInBounds_ne (by omega), List.getElem_append_left (by omega)]
          exact k7 j (by omega)
    · intro hlt v' w' r1 r2
      refine hK v' w' (TailRow.of_owns ?_) ⟨r2.os, r2.tape, r2.output, r2.size, fun k hk _ => r2.block k hk (by simp)⟩
      rw [List.length_append, List.length_singleton]
      exact own_lower r1 hbase

end Go.Proofs.YtkffdamgekoifaaGreatDoor
