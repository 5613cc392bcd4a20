/-
  A slice of slices of one-celled elements, all in memory of the call's own: a row more, a row that grows.
-/
import Derived.Test.YtkffdamgekoifaaGreatDoorBase
namespace Go.Proofs.YtkffdamgekoifaaGreatDoor
open Go Go.RowKit

def OwnRows (eo ei lo : Nat) (w : World) (v : Value) (vs : List Value) (xss : List (List Value)) : Prop :=
  vs.length = xss.length ∧ w.ownsRow lo eo 1 v vs.length vs ∧ (∀ (i : Nat) (h : i < vs.length) (h' : i < xss.length), w.ownsRow lo ei 1 vs[i] xss[i].length xss[i])
    ∧ (∀ (i j : Nat) (h : i < vs.length) (h' : j < vs.length), i ≠ j → vs[i].ownBlock = none ∨ vs[i].ownBlock ≠ vs[j].ownBlock)

theorem OwnRows.nil (eo ei lo : Nat) (w : World) : OwnRows eo ei lo w (.slice none 0 0) [] [] := ⟨rfl, World.ownsRow_nil w lo eo 1, fun i h => by simp at h, fun i j h => by simp at h⟩

theorem OwnRows.below {eo ei lo : Nat} {w w' : World} {v : Value} {vs : List Value} {xss : List (List Value)} (h : OwnRows eo ei lo w v vs xss) (hb : Below w.heap.size w w') : OwnRows eo ei lo w' v vs xss := by
  obtain ⟨h1, h2, h3, h4⟩ := h
  exact ⟨h1, owns_below h2 hb, fun i hi hi' => owns_below (h3 i hi hi') hb, h4⟩

/-- A block elsewhere is written. -/
theorem OwnRows.kept {eo ei lo : Nat} {w w' : World} {v : Value} {vs : List Value} {xss : List (List Value)} {row : Option Nat} (h : OwnRows eo ei lo w v vs xss) (hg : w.grownBy w' row) (h0 : v.ownBlock = none ∨ v.ownBlock ≠ row)
    (hr : ∀ (i : Nat) (h : i < vs.length), vs[i].ownBlock = none ∨ vs[i].ownBlock ≠ row) : OwnRows eo ei lo w' v vs xss := by
  obtain ⟨h1, h2, h3, h4⟩ := h
  exact ⟨h1, h2.kept hg h0, fun i hi hi' => (h3 i hi hi').kept hg (hr i hi), h4⟩

/-- The rows lie in blocks of another type than t. -/
theorem own_type_ne {w : World} {base e size n : Nat} {v : Value} {xs : List Value} (h : w.ownsRow base e size v n xs) {b : Nat} {cs : Array Value} {t : TypeId} {f : Nat × Nat} (hb : w.heap[b]? = some (.cells cs t f)) (he : e ≠ t) : v.ownBlock = none ∨ v.ownBlock ≠ some b := by
  rcases h.2 with ⟨rfl, -⟩ | ⟨g, c, u, rfl, -, hg, -⟩
  · exact .inl rfl
  · refine .inr fun e1 => ?_
    simp only [Value.ownBlock, Option.some.injEq] at e1
    subst e1
    rw [hb] at hg
    simp only [Option.some.injEq, Obj.cells.injEq] at hg
    exact he hg.2.1.symm
theorem own_map_ne {w : World} {base e size n : Nat} {v : Value} {xs : List Value} (h : w.ownsRow base e size v n xs) {b : Nat} {es : Array MapEntry} {c : Nat} (hb : w.heap[b]? = some (.map es c)) : v.ownBlock = none ∨ v.ownBlock ≠ some b := by
  rcases h.2 with ⟨rfl, -⟩ | ⟨g, c, u, rfl, -, hg, -⟩
  · exact .inl rfl
  · refine .inr fun e1 => ?_
    simp only [Value.ownBlock, Option.some.injEq] at e1
    subst e1
    rw [hb] at hg
    cases hg

/-- An empty row more. -/
theorem OwnRows.push {eo ei lo : Nat} {w w' : World} {v v' : Value} {vs : List Value} {xss : List (List Value)} (he : eo ≠ ei) (h : OwnRows eo ei lo w v vs xss)
    (hg : w.grownBy w' v.ownBlock) (hv : w'.ownsRow lo eo 1 v' (vs.length + 1) (vs ++ [.slice none 0 0])) : OwnRows eo ei lo w' v' (vs ++ [.slice none 0 0]) (xss ++ [[]]) := by
  obtain ⟨h1, h2, h3, h4⟩ := h
  refine ⟨by simp [h1], by simpa using hv, fun i hi hi' => ?_, fun i j hi hj hij => ?_⟩
  · by_cases hlt : i < vs.length
    · rw [List.getElem_append_left hlt]
      simp only [List.getElem_append_left (show i < xss.length by omega)]
      exact (h3 i hlt (by omega)).kept hg (own_types (h3 i hlt (by omega)) h2 (fun e => he e.symm))
    · have e : i = vs.length := by simp at hi; omega
      subst e
      simp only [List.getElem_concat_length]
      have : (xss ++ [[]])[vs.length] = [] := by simp [h1]
      rw [this]
      exact World.ownsRow_nil w' lo ei 1
  · by_cases h1' : i < vs.length
    · by_cases h2' : j < vs.length
      · rw [List.getElem_append_left h1', List.getElem_append_left h2']
        exact h4 i j h1' h2' hij
      · have e : j = vs.length := by simp at hj; omega
        subst e
        rw [List.getElem_append_left h1', List.getElem_concat_length rfl]
        cases hb1 : vs[i].ownBlock with
        | none => exact .inl rfl
        | some b => exact .inr (by simp [Value.ownBlock])
    · have e : i = vs.length := by simp at hi; omega
      subst e
      rw [List.getElem_concat_length rfl]
      exact .inl rfl

/-- A row grows: its new value is written to its place. -/
theorem OwnRows.grow {eo ei lo : Nat} {w w1 w2 : World} {v v' : Value} {vs : List Value} {xss : List (List Value)} {ys : List Value} (he : eo ≠ ei) (h : OwnRows eo ei lo w v vs xss) (j : Nat) (hj : j < vs.length)
    (hg : w.grownBy w1 vs[j].ownBlock) (ho : w1.ownsRow lo ei 1 v' ys.length ys) (hb : ∀ b, v'.ownBlock = some b → vs[j].ownBlock = some b ∨ w.heap.size ≤ b)
    (hg2 : w1.grownBy w2 v.ownBlock) (hv : w2.ownsRow lo eo 1 v vs.length (vs.set j v')) : OwnRows eo ei lo w2 v (vs.set j v') (xss.set j ys) := by
  obtain ⟨h1, h2, h3, h4⟩ := h
  have h2' : w1.ownsRow lo eo 1 v vs.length vs := h2.kept hg (own_types h2 (h3 j hj (by omega)) he)
  have hnew : w2.ownsRow lo ei 1 v' ys.length ys := ho.kept hg2 (own_types ho h2' (fun e => he e.symm))
  have hne : ∀ (i : Nat) (hi : i < vs.length), i ≠ j → vs[i].ownBlock = none ∨ vs[i].ownBlock ≠ v'.ownBlock := by
    intro i hi hij
    cases hb1 : vs[i].ownBlock with
    | none => exact .inl rfl
    | some b =>
      refine .inr fun e => ?_
      rcases hb b e.symm with h | h
      · rcases h4 i j hi hj hij with k | k
        · rw [hb1] at k; cases k
        · exact k (hb1.trans h.symm)
      · have := ((h3 i hi (by omega)).lt b hb1).2
        omega
  refine ⟨by simpa using h1, by simpa using hv, fun i hi hi' => ?_, fun i k hi hk hik => ?_⟩
  · by_cases hij : j = i
    · subst hij
      simpa using hnew
    · rw [List.getElem_set_ne hij, List.getElem_set_ne hij]
      simp only [List.length_set] at hi hi'
      have k1 := (h3 i hi hi').kept hg (h4 i j hi hj (fun e => hij e.symm))
      exact k1.kept hg2 (own_types k1 h2' (fun e => he e.symm))
  · simp only [List.length_set] at hi hk
    by_cases e1 : j = i
    · subst e1
      rw [List.getElem_set_self, List.getElem_set_ne hik]
      rcases hne k hk (fun e => hik e.symm) with h | h
      · cases hb2 : v'.ownBlock with
        | none => exact .inl rfl
        | some b => exact .inr (by rw [h]; simp)
      · exact .inr (fun e => h e.symm)
    · by_cases e2 : j = k
      · subst e2
        rw [List.getElem_set_self, List.getElem_set_ne e1]
        exact hne i hi hik
      · rw [List.getElem_set_ne e1, List.getElem_set_ne e2]
        exact h4 i k hi hk hik

end Go.Proofs.YtkffdamgekoifaaGreatDoor
