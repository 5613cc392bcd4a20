/-
  An argument of a system's type, opened: what its reading says of the cells behind it.
-/
import Derived.Test.YtkffdamgekoifaaGreatDoorBase
import Derived.ProofKit
import Derived.Lib.ItoaMem
import Derived.OpenShut
import Derived.Deep.Strs
import Derived.Deep.Slices
namespace Go.Proofs.YtkffdamgekoifaaGreatDoor
open Go Go.ChangeShapes Go.WideShapes Go.ChangeAt Go.RowKit Go.Deep

instance : Inhabited Edge := ⟨⟨0, 0, 0⟩⟩

section
variable {H : Type} {enc : TypeId × Value → H} {P : Program} {w : World} {base : Nat} {spare : Nat → Bool} {held : Bool}

theorem spot_none {w : World} {a : Addr} {v : Value} (h : w.cell? a = some v) : a = ⟨a.block, a.off, none⟩ := by
  unfold World.cell? at h
  split at h
  · split at h
    · cases h
    · next hs =>
      obtain ⟨b, o, s⟩ := a
      cases s with
      | none => rfl
      | some x => simp at hs
  · cases h

theorem rowK_of {α : Type} {k : Nat} {enc : α → List Value} {w : World} {a : Addr} {xs : List α} (hk : 0 < k) (henc : ∀ x, (enc x).length = k) (h : ∀ i (hi : i < xs.length) j, j < k → w.cell? (a.add (i * k + j)) = (enc xs[i])[j]?) : RowK k enc 0 w (some a) xs := by
  by_cases h0 : xs.length = 0
  · exact .inl h0
  · have hp : 0 < xs.length := by omega
    have h1 := h 0 hp 0 hk
    rw [Nat.zero_mul, Nat.zero_add] at h1
    have h2 : a.add 0 = a := by unfold Addr.add; rw [if_pos rfl]
    rw [h2, List.getElem?_eq_getElem (by rw [henc]; exact hk)] at h1
    have hs := spot_none h1
    have hlt := World.block_lt_of_cell? _ _ h1
    obtain ⟨b, o, s⟩ := a
    simp only [Addr.mk.injEq, true_and] at hs
    subst hs
    refine .inr ⟨b, o, rfl, Nat.zero_le _, hlt, fun i hi j hj => ?_⟩
    have := h i hi j hj
    rw [Lib.add_plain] at this
    rw [Nat.add_assoc]
    exact this

theorem trod_struct4 {t : TypeId} {f0 f1 f2 f3 : Field} {fuel : Nat} {cs : List Value} {x : DataW H × List MemPlace} (ht : P.underlying t = some (.struct #[f0, f1, f2, f3])) (h : DataW.trod enc P w base spare held fuel t cs = some x) :
    ∃ y0 y1 y2 y3 n, cs.length = P.cellsOf t ∧ DataW.trod enc P w base spare held n f0.type ((cs.drop f0.offset).take (P.cellsOf f0.type)) = some y0 ∧ DataW.trod enc P w base spare held n f1.type ((cs.drop f1.offset).take (P.cellsOf f1.type)) = some y1 ∧
      DataW.trod enc P w base spare held n f2.type ((cs.drop f2.offset).take (P.cellsOf f2.type)) = some y2 ∧ DataW.trod enc P w base spare held n f3.type ((cs.drop f3.offset).take (P.cellsOf f3.type)) = some y3 := by
  obtain ⟨xs, n, _, rfl, hl, hlen, hf⟩ := DataW.trod_struct ht h
  match xs, hlen with
  | [y0, y1, y2, y3], _ => exact ⟨y0, y1, y2, y3, n, hl, by simpa using hf 0 f0 rfl, by simpa using hf 1 f1 rfl, by simpa using hf 2 f2 rfl, by simpa using hf 3 f3 rfl⟩

theorem strs_slice {t e : TypeId} {fuel : Nat} {cs : List Value} {x : DataW H × List MemPlace} (ht : P.underlying t = some (.slice e)) (he : P.underlying e = some .string) (hc : P.cellsOf e = 1)
    (h : DataW.trod enc P w base spare held fuel t cs = some x) : ∃ v ss, cs = [v] ∧ SliceK 1 encS 0 w v ss ∧ StrsOk ss := by
  rcases open_strs ht he hc h with ⟨rfl, -⟩ | ⟨a, len, cap, m, Sx, rfl, -, hl, hm, hmm, -, hx⟩
  · exact ⟨_, [], rfl, ⟨none, 0, rfl, Nat.le_refl _, by omega, .inl rfl⟩, fun s hs => by cases hs⟩
  · have hlm : len ≤ m := by rw [hmm]; split <;> omega
    refine ⟨_, (List.range len).map Sx, rfl, ⟨some a, cap, by simp, by simpa using hl, by simpa [maxLen] using hm, rowK_of (by decide) encS_len fun i hi j hj => ?_⟩, fun s hs => ?_⟩
    · obtain rfl : j = 0 := by omega
      have hi' : i < len := by simpa using hi
      rw [Nat.mul_one, Nat.add_zero, (hx i (by omega)).1]
      simp [encS]
    · obtain ⟨i, hi, rfl⟩ := List.mem_map.1 hs
      have := (hx i (by have := List.mem_range.1 hi; omega)).2
      simpa [maxLen] using this

theorem ints_slice {t e : TypeId} {fuel : Nat} {cs : List Value} {x : DataW H × List MemPlace} (ht : P.underlying t = some (.slice e)) (he : P.underlying e = some (.int .i64)) (ce : P.cellsOf e = 1)
    (h : DataW.trod enc P w base spare held fuel t cs = some x) : ∃ v xs, cs = [v] ∧ SliceK 1 encI 0 w v xs := by
  rcases open_slice ht h with ⟨rfl, -⟩ | ⟨a, len, cap, m, n, D, Pl, rfl, -, hl, hm, hmm, -, hx⟩
  · exact ⟨_, [], rfl, ⟨none, 0, rfl, Nat.le_refl _, by omega, .inl rfl⟩⟩
  · have hlm : len ≤ m := by rw [hmm]; split <;> omega
    have each : ∀ i, i < len → ∃ z : Int, ∀ j, j < 1 → w.cell? (a.add (i * 1 + j)) = (encI z)[j]? := by
      intro i hi
      obtain ⟨cs', h1, h2⟩ := hx i (by omega)
      rw [ce] at h1
      obtain ⟨_, hlen, hcell⟩ := World.cells?_some h1
      obtain ⟨z, e0, -, -⟩ := DataW.trod_int he h2
      subst e0
      refine ⟨z, fun j hj => ?_⟩
      have := hcell j hj
      rw [add_add] at this
      exact this
    obtain ⟨q, hq⟩ := choose_lt each
    refine ⟨_, (List.range len).map q, rfl, ⟨some a, cap, by simp, by simpa using hl, by simpa [maxLen] using hm, rowK_of (by decide) encI_len fun i hi j hj => ?_⟩⟩
    have hi' : i < len := by simpa using hi
    rw [hq i hi' j hj]
    simp

theorem edges_slice {t e u : TypeId} {f0 f1 f2 : Field} {fuel : Nat} {cs : List Value} {x : DataW H × List MemPlace} (ht : P.underlying t = some (.slice e)) (he : P.underlying e = some (.struct #[f0, f1, f2])) (hu : P.underlying u = some (.int .i64)) (ce : P.cellsOf e = 3) (cu : P.cellsOf u = 1)
    (t0 : f0.type = u) (t1 : f1.type = u) (t2 : f2.type = u) (o0 : f0.offset = 0) (o1 : f1.offset = 1) (o2 : f2.offset = 2)
    (h : DataW.trod enc P w base spare held fuel t cs = some x) : ∃ v es, cs = [v] ∧ SliceK 3 encE 0 w v es := by
  rcases open_slice ht h with ⟨rfl, -⟩ | ⟨a, len, cap, m, n, D, Pl, rfl, -, hl, hm, hmm, -, hx⟩
  · exact ⟨_, [], rfl, ⟨none, 0, rfl, Nat.le_refl _, by omega, .inl rfl⟩⟩
  · have hlm : len ≤ m := by rw [hmm]; split <;> omega
    have each : ∀ i, i < len → ∃ e : Edge, ∀ j, j < 3 → w.cell? (a.add (i * 3 + j)) = (encE e)[j]? := by
      intro i hi
      obtain ⟨cs', h1, h2⟩ := hx i (by omega)
      rw [ce] at h1
      obtain ⟨_, hlen, hcell⟩ := World.cells?_some h1
      obtain ⟨y0, y1, y2, k, -, hl3, g0, g1, g2⟩ := trod_struct3 he h2
      rw [t0, o0, cu] at g0
      rw [t1, o1, cu] at g1
      rw [t2, o2, cu] at g2
      obtain ⟨n0, e0, -, -⟩ := DataW.trod_int hu g0
      obtain ⟨n1, e1, -, -⟩ := DataW.trod_int hu g1
      obtain ⟨n2, e2, -, -⟩ := DataW.trod_int hu g2
      match cs', hlen, e0, e1, e2, hcell with
      | [c0, c1, c2], _, e0, e1, e2, hcell =>
        simp at e0 e1 e2
        subst e0 e1 e2
        refine ⟨⟨n0, n1, n2⟩, fun j hj => ?_⟩
        have := hcell j hj
        rw [add_add] at this
        exact this
    obtain ⟨q, hq⟩ := choose_lt each
    refine ⟨_, (List.range len).map q, rfl, ⟨some a, cap, by simp, by simpa using hl, by simpa [maxLen] using hm, rowK_of (by decide) encE_len fun i hi j hj => ?_⟩⟩
    have hi' : i < len := by simpa using hi
    rw [hq i hi' j hj]
    simp
end

end Go.Proofs.YtkffdamgekoifaaGreatDoor
