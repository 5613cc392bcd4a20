/-
  Plain laws: the order of texts; in a deterministic system at most one edge leaves a state with a label's text.
-/
import Derived.Test.YtkffdamgekoifaaGreatDoorStay
namespace Go.Proofs.YtkffdamgekoifaaGreatDoor
open Go Go.RowKit

theorem less_lt : ∀ (x y : List UInt8), Op.bytesLess x y = decide (x < y)
  | [], [] => by simp [Op.bytesLess]
  | _ :: _, [] => by simp [Op.bytesLess]
  | [], _ :: _ => by simp [Op.bytesLess]
  | a :: x, b :: y => by
    rw [Op.bytesLess, less_lt x y]
    simp only [List.cons_lt_cons_iff]
    by_cases h1 : a < b <;> by_cases h2 : a = b <;> by_cases h3 : x < y <;> simp [h1, h2, h3]

theorem less_trans {x y z : List UInt8} (h1 : Op.bytesLess x y = true) (h2 : Op.bytesLess y z = true) : Op.bytesLess x z = true := by
  rw [less_lt, decide_eq_true_eq] at *
  exact List.lt_trans h1 h2
theorem less_irrefl (x : List UInt8) : Op.bytesLess x x = false := by
  rw [less_lt, decide_eq_false_iff_not]
  exact List.lt_irrefl x
theorem less_leq (x y : List UInt8) : (Op.bytesLess x y || x == y) = !Op.bytesLess y x := by
  rw [less_lt, less_lt]
  by_cases h : y < x
  · have h1 : ¬ x < y := fun h' => List.lt_irrefl x (List.lt_trans h' h)
    have h2 : x ≠ y := fun e => List.lt_irrefl x (by rw [e] at h ⊢; exact h)
    simp [h, h1, h2]
  · by_cases h1 : x < y
    · simp [h, h1]
    · have e : x = y := List.le_antisymm (List.not_lt.1 h) (List.not_lt.1 h1)
      simp [e]

theorem labels_less {ls : List ByteArray} (h : LabelsOk ls) (i j : Nat) (hi : 1 ≤ i) (hij : i < j) (hj : j < ls.length) : strLess ls[i] ls[j] = true := by
  induction j with
  | zero => omega
  | succ j ih =>
    rcases Nat.lt_or_ge i j with hlt | hge
    · exact less_trans (ih hlt (by omega)) (h.rise j hj (by omega))
    · obtain rfl : i = j := by omega
      exact h.rise i hj hi
theorem labels_inj {ls : List ByteArray} (h : LabelsOk ls) (i j : Nat) (hi : i < ls.length) (hj : j < ls.length) (e : ls[i].toList = ls[j].toList) : i = j := by
  have key : ∀ i j (hi : i < ls.length) (hj : j < ls.length), ls[i].toList = ls[j].toList → ¬ i < j := by
    intro i j hi hj e hlt
    by_cases h0 : i = 0
    · subst h0
      exact h.other j hj (by omega) (by rw [← e]; exact h.first hi)
    · have := labels_less h i j (by omega) hlt hj
      unfold strLess at this
      rw [e, less_irrefl] at this
      cases this
  rcases Nat.lt_trichotomy i j with hlt | heq | hgt
  · exact absurd hlt (key i j hi hj e)
  · exact heq
  · exact absurd hgt (key j i hj hi e.symm)

/-- Edges in order: by source, label, destination. -/
def keyLt (a b : Edge) : Prop := a.src < b.src ∨ (a.src = b.src ∧ (a.lab < b.lab ∨ (a.lab = b.lab ∧ a.dst < b.dst)))
theorem keyLt_of {a b : Edge} (h : edgeLess a b = true) : keyLt a b := by
  unfold edgeLess at h
  unfold keyLt
  by_cases h1 : a.src = b.src
  · by_cases h2 : a.lab = b.lab
    · simp [h1, h2] at h; omega
    · simp [h1, h2] at h; omega
  · simp [h1] at h; omega
theorem keyLt_trans {a b c : Edge} (h1 : keyLt a b) (h2 : keyLt b c) : keyLt a c := by unfold keyLt at *; omega
theorem edges_less {t : Lts} (hv : Valid t) (i j : Nat) (hij : i < j) (hj : j < t.edges.length) : keyLt t.edges[i] t.edges[j] := by
  induction j with
  | zero => omega
  | succ j ih =>
    rcases Nat.lt_or_ge i j with hlt | hge
    · exact keyLt_trans (ih hlt (by omega)) (keyLt_of (hv.rise j hj))
    · obtain rfl : i = j := by omega
      exact keyLt_of (hv.rise i hj)

theorem filter_one {α : Type} {f : α → Bool} : ∀ {l : List α}, (∀ i j (hi : i < l.length) (hj : j < l.length), i < j → ¬ (f l[i] = true ∧ f l[j] = true)) → (l.filter f).length ≤ 1
  | [], _ => by simp
  | x :: r, h => by
    rw [List.filter_cons]
    cases hx : f x with
    | true =>
      rw [if_pos rfl]
      have : r.filter f = [] := by
        rw [List.filter_eq_nil_iff]
        intro y hy
        obtain ⟨j, hj, rfl⟩ := List.mem_iff_getElem.1 hy
        intro hf
        exact h 0 (j + 1) (by simp) (by simpa using hj) (by omega) ⟨hx, by simpa using hf⟩
      rw [this]; simp
    | false =>
      rw [if_neg (by simp)]
      exact filter_one fun i j hi hj hij => by
        have := h (i + 1) (j + 1) (by simpa using hi) (by simpa using hj) (by omega)
        simpa using this

theorem labAt_idx {t : Lts} {e : Edge} (h : EdgeOk t e) : ∃ hlt : e.lab.toNat < t.labels.length, labAt t e = t.labels[e.lab.toNat] := by
  have h0 := h.l0
  have h1 := h.l1
  have hlt : e.lab.toNat < t.labels.length := by omega
  exact ⟨hlt, by unfold labAt; rw [List.getD_eq_getElem?_getD, List.getElem?_eq_getElem hlt]; rfl⟩

set_option maxRecDepth 100000 in
theorem hits_one {p : Lts} (hv : Valid p) (hs : Single p) (q : Int) (l : ByteArray) : (p.edges.filter (hitB p q l)).length ≤ 1 := by
  refine filter_one fun i j hi hj hij ⟨h1, h2⟩ => ?_
  unfold hitB at h1 h2
  simp only [Bool.and_eq_true, beq_iff_eq] at h1 h2
  obtain ⟨hl1, e1⟩ := labAt_idx (hv.edge i hi)
  obtain ⟨hl2, e2⟩ := labAt_idx (hv.edge j hj)
  rw [e1] at h1
  rw [e2] at h2
  have hlab : p.edges[i].lab = p.edges[j].lab := by
    have h3 := labels_inj hv.labels _ _ hl1 hl2 (h1.2.trans h2.2.symm)
    have h4 := (hv.edge i hi).l0
    have h5 := (hv.edge j hj).l0
    omega
  have ha : p.edges[i + 1].src = p.edges[i].src ∧ p.edges[i + 1].lab = p.edges[i].lab := by
    have k1 := edges_less hv i (i + 1) (by omega) (by omega)
    by_cases e : i + 1 = j
    · have e' : p.edges[i + 1] = p.edges[j] := by congr
      rw [e']
      exact ⟨h2.1.trans h1.1.symm, hlab.symm⟩
    · have k2 := edges_less hv (i + 1) j (by omega) hj
      unfold keyLt at k1 k2
      omega
  exact hs.one i (by omega) ha

/-- The states behind the edges that a label's text takes. -/
def behind (p : Lts) (q : Int) (l : ByteArray) : List Int := (p.edges.filter (hitB p q l)).map Edge.dst
theorem behind_one {p : Lts} (hv : Valid p) (hs : Single p) (q : Int) (l : ByteArray) : (behind p q l).length ≤ 1 := by
  unfold behind; rw [List.length_map]; exact hits_one hv hs q l
theorem find_filter {α : Type} (f : α → Bool) : ∀ l : List α, l.find? f = (l.filter f).head?
  | [] => rfl
  | x :: r => by
    rw [List.find?_cons, List.filter_cons]
    cases f x with
    | true => rfl
    | false => rw [if_neg (by simp)]; exact find_filter f r
theorem goTo_behind {p : Lts} {q : Int} (h : 0 ≤ q) (l : ByteArray) : goTo p q l = (behind p q l).head?.getD (-1) := by
  unfold goTo behind
  rw [if_neg (by omega), find_filter, List.head?_map]

theorem find_at {α : Type} {p : α → Bool} {l : List α} {k : Nat} (hk : k < l.length) (h1 : ∀ j (h : j < l.length), j < k → p l[j] = false) (h2 : p l[k] = true) : l.find? p = some l[k] := by
  rw [List.find?_eq_some_iff_getElem]
  exact ⟨h2, k, hk, rfl, fun j hj => by simp [h1 j (by omega) hj]⟩
theorem find_none {α : Type} {p : α → Bool} {l : List α} (h1 : ∀ j (h : j < l.length), p l[j] = false) : l.find? p = none := by
  rw [List.find?_eq_none]
  intro x hx
  obtain ⟨j, hj, rfl⟩ := List.mem_iff_getElem.1 hx
  simp [h1 j hj]
theorem labAt_get {t : Lts} {e : Edge} (h : e.lab.toNat < t.labels.length) : t.labels[e.lab.toNat] = labAt t e := by
  unfold labAt
  simp [List.getD, h]

end Go.Proofs.YtkffdamgekoifaaGreatDoor
