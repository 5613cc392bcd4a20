/-
  The pairs that can stay: the sweeps that both texts make over the pairs, in place. Plain definitions; no program in sight.
-/
import Derived.Test.YtkffdamgekoifaaGreatDoorSys
namespace Go.Proofs.YtkffdamgekoifaaGreatDoor
open Go Go.RowKit

/-- The text of an edge's label. -/
def labAt (t : Lts) (e : Edge) : ByteArray := t.labels.getD e.lab.toNat ByteArray.empty
def hitB (t : Lts) (q : Int) (l : ByteArray) (e : Edge) : Bool := (e.src == q) && ((labAt t e).toList == l.toList)
/-- The state to which a label leads, or -1. -/
def goTo (t : Lts) (q : Int) (l : ByteArray) : Int :=
  if q < 0 then -1 else ((t.edges.find? (hitB t q l)).map Edge.dst).getD (-1)
/-- The state of the property behind an edge of the model, or -1. -/
def toState (t p : Lts) (e : Edge) (q : Int) : Int := if e.lab = 0 then q else goTo p q (labAt t e)
/-- The edges from a state. -/
def outOf (t : Lts) (k : Int) : List Edge := t.edges.filter fun e => e.src == k

/-- The place of a pair. -/
def idx (p : Lts) (x y : Int) : Nat := (x * p.states + y).toNat
def goesB (t p : Lts) (c : List Bool) (l : List Edge) (q : Int) : Bool :=
  l.any fun e => decide (0 ≤ toState t p e q) && c.getD (idx p e.dst (toState t p e q)) false
def stepB (t p : Lts) (k q : Nat) (c : List Bool) : List Bool :=
  if (c.getD (idx p k q) false && !(outOf t k).isEmpty) && !(goesB t p c (outOf t k) q) then c.set (idx p k q) false else c
def rowTo (t p : Lts) (k n : Nat) (c : List Bool) : List Bool := (List.range n).foldl (fun c q => stepB t p k q c) c
def sweepTo (t p : Lts) (n : Nat) (c : List Bool) : List Bool := (List.range n).foldl (fun c k => rowTo t p k p.states.toNat c) c
def sweepB (t p : Lts) (c : List Bool) : List Bool := sweepTo t p t.states.toNat c

theorem rowTo_zero (t p : Lts) (k : Nat) (c : List Bool) : rowTo t p k 0 c = c := rfl
theorem rowTo_succ (t p : Lts) (k n : Nat) (c : List Bool) : rowTo t p k (n + 1) c = stepB t p k n (rowTo t p k n c) := by unfold rowTo; rw [List.range_succ, List.foldl_append]; rfl
theorem sweepTo_zero (t p : Lts) (c : List Bool) : sweepTo t p 0 c = c := rfl
theorem sweepTo_succ (t p : Lts) (n : Nat) (c : List Bool) : sweepTo t p (n + 1) c = rowTo t p n p.states.toNat (sweepTo t p n c) := by unfold sweepTo; rw [List.range_succ, List.foldl_append]; rfl

/-- What became of c0: nothing, or fewer are left. -/
def Less (c0 c : List Bool) (b : Bool) : Prop := c.length = c0.length ∧ ((b = true ∧ c.count true < c0.count true) ∨ (b = false ∧ c = c0))

theorem Less.refl (c : List Bool) : Less c c false := ⟨rfl, .inr ⟨rfl, rfl⟩⟩
theorem count_set {c : List Bool} {i : Nat} (h : c.getD i false = true) : (c.set i false).count true < c.count true := by
  induction c generalizing i with
  | nil => simp at h
  | cons x r ih =>
    cases i with
    | zero =>
      have : x = true := by simpa [List.getD] using h
      subst this
      simp
    | succ i =>
      have := ih (i := i) (by simpa [List.getD] using h)
      simp only [List.set_cons_succ, List.count_cons]
      omega
theorem Less.set {c0 c : List Bool} {b : Bool} (h : Less c0 c b) {i : Nat} (hi : c.getD i false = true) : Less c0 (c.set i false) true := by
  refine ⟨by rw [List.length_set]; exact h.1, .inl ⟨rfl, ?_⟩⟩
  have h1 := count_set hi
  rcases h.2 with ⟨-, h2⟩ | ⟨-, rfl⟩
  · omega
  · exact h1
theorem Less.trans {a b c : List Bool} {x y : Bool} (h : Less a b x) (k : Less b c y) : Less a c (x || y) := by
  refine ⟨k.1.trans h.1, ?_⟩
  rcases h.2 with ⟨rfl, h2⟩ | ⟨rfl, rfl⟩ <;> rcases k.2 with ⟨rfl, k2⟩ | ⟨rfl, rfl⟩
  · exact .inl ⟨rfl, by omega⟩
  · exact .inl ⟨rfl, h2⟩
  · exact .inl ⟨rfl, k2⟩
  · exact .inr ⟨rfl, rfl⟩

/-- Some number of sweeps. -/
def sweeps (t p : Lts) : Nat → List Bool → List Bool
  | 0, c => c
  | n + 1, c => sweeps t p n (sweepB t p c)
theorem sweeps_succ (t p : Lts) (n : Nat) (c : List Bool) : sweeps t p (n + 1) c = sweepB t p (sweeps t p n c) := by
  induction n generalizing c with
  | zero => rfl
  | succ n ih => rw [sweeps, ih]; rfl
theorem sweeps_fixed {t p : Lts} {c : List Bool} (h : sweepB t p c = c) (n : Nat) : sweeps t p n c = c := by
  induction n with
  | zero => rfl
  | succ n ih => rw [sweeps, h, ih]
theorem sweeps_add (t p : Lts) (m n : Nat) (c : List Bool) : sweeps t p (m + n) c = sweeps t p n (sweeps t p m c) := by
  induction m generalizing c with
  | zero => rw [Nat.zero_add]; rfl
  | succ m ih => rw [show m + 1 + n = (m + n) + 1 from by omega, sweeps, ih]; rfl
/-- The list at which the sweeps come to rest. -/
def Rest (t p : Lts) (c0 c : List Bool) : Prop := (∃ n, c = sweeps t p n c0) ∧ sweepB t p c = c
theorem Rest.unique {t p : Lts} {c0 a b : List Bool} (ha : Rest t p c0 a) (hb : Rest t p c0 b) : a = b := by
  obtain ⟨⟨m, hm⟩, fa⟩ := ha
  obtain ⟨⟨n, hn⟩, fb⟩ := hb
  have h1 : sweeps t p (m + n) c0 = a := by rw [sweeps_add, ← hm, sweeps_fixed fa]
  have h2 : sweeps t p (n + m) c0 = b := by rw [sweeps_add, ← hn, sweeps_fixed fb]
  rw [← h1, ← h2, Nat.add_comm]

/-- The pairs that are marked. -/
def pairsOf (p : Lts) (c : List Bool) : List (List Int) :=
  ((List.range c.length).filter fun i => c.getD i false).map fun (i : Nat) => [(i : Int) / p.states, (i : Int) % p.states]

theorem outOf_ok {t : Lts} (hv : Valid t) (k : Int) : ∀ e ∈ outOf t k, EdgeOk t e := by
  intro e he
  have := (List.mem_filter.1 he).1
  obtain ⟨i, hi, rfl⟩ := List.mem_iff_getElem.1 this
  exact hv.edge i hi
theorem goTo_range {p : Lts} (hv : Valid p) (q : Int) (l : ByteArray) : -1 ≤ goTo p q l ∧ goTo p q l < p.states := by
  have h1 := hv.st0
  unfold goTo
  split
  · omega
  · cases hf : p.edges.find? (hitB p q l) with
    | none => simp; omega
    | some e =>
      obtain ⟨i, hi, rfl⟩ := List.mem_iff_getElem.1 (List.mem_of_find?_eq_some hf)
      have := hv.edge i hi
      have h2 := this.d0
      have h3 := this.d1
      simp
      omega
theorem toState_range {t p : Lts} (hv : Valid p) (e : Edge) {q : Int} (h0 : 0 ≤ q) (h1 : q < p.states) : -1 ≤ toState t p e q ∧ toState t p e q < p.states := by
  unfold toState
  split
  · omega
  · exact goTo_range hv q _
theorem any_take {α : Type} (l : List α) (f : α → Bool) (j : Nat) (h : j < l.length) : (l.take (j + 1)).any f = ((l.take j).any f || f l[j]) := by
  rw [List.take_succ_eq_append_getElem h, List.any_append]
  simp
theorem pair_lt {S P k q : Nat} (hk : k < S) (hq : q < P) : k * P + q < S * P := by
  have := Nat.mul_le_mul_right P (Nat.succ_le_of_lt hk)
  rw [Nat.succ_mul] at this
  omega

theorem stepB_no1 {t p : Lts} {k q : Nat} {c : List Bool} (h : c.getD (idx p k q) false = false) : stepB t p k q c = c := by unfold stepB; rw [h]; simp
theorem stepB_no2 {t p : Lts} {k q : Nat} {c : List Bool} (h : (outOf t k).isEmpty = true) : stepB t p k q c = c := by unfold stepB; rw [h]; simp
theorem stepB_no3 {t p : Lts} {k q : Nat} {c : List Bool} (h : goesB t p c (outOf t k) q = true) : stepB t p k q c = c := by unfold stepB; rw [h]; simp
theorem stepB_set {t p : Lts} {k q : Nat} {c : List Bool} (h1 : c.getD (idx p k q) false = true) (h2 : (outOf t k).isEmpty = false) (h3 : goesB t p c (outOf t k) q = false) : stepB t p k q c = c.set (idx p k q) false := by
  unfold stepB; rw [h1, h2, h3]; rfl
theorem idx_nat {p : Lts} {P : Nat} (hP : (P : Int) = p.states) (x y : Nat) : idx p x y = x * P + y := by
  unfold idx
  rw [← hP, ← Int.natCast_mul, ← Int.natCast_add, Int.toNat_natCast]
theorem cell_bool {w : World} {base e g n cap : Nat} {c : List Bool} (h : w.ownsRow base e 1 (.slice (some ⟨g, 0, none⟩) n cap) n (c.map Value.bool)) {i : Nat} (hi : i < n) : w.cell? ⟨g, i, none⟩ = some (.bool (c.getD i false)) := by
  have hl := h.1
  rw [h.cellAt i (by omega), List.getElem?_map]
  have : i < c.length := by simp at hl; omega
  simp [List.getD, this]

/-- Does one of the first j edges lead to a pair that is still there? -/
def anyTo (t p : Lts) (c : List Bool) (l : List Edge) (q : Int) (j : Nat) : Bool :=
  (l.take j).any fun e => decide (0 ≤ toState t p e q) && c.getD (idx p e.dst (toState t p e q)) false
theorem anyTo_zero (t p : Lts) (c : List Bool) (l : List Edge) (q : Int) : anyTo t p c l q 0 = false := rfl
theorem anyTo_succ (t p : Lts) (c : List Bool) (l : List Edge) (q : Int) (j : Nat) (h : j < l.length) :
    anyTo t p c l q (j + 1) = (anyTo t p c l q j || (decide (0 ≤ toState t p l[j] q) && c.getD (idx p l[j].dst (toState t p l[j] q)) false)) := any_take l _ j h
theorem anyTo_all (t p : Lts) (c : List Bool) (l : List Edge) (q : Int) : anyTo t p c l q l.length = goesB t p c l q := by unfold anyTo goesB; rw [List.take_length]

end Go.Proofs.YtkffdamgekoifaaGreatDoor
