/-
  The pairs that can stay: the sweeps that both texts make over the pairs, in place. Plain definitions; no program in sight.
  Plain laws: the order of texts; in a deterministic system at most one edge leaves a state with a label's text.
  A plant, a supervisor and a requirement: the triples of states that are reached, those from which a marked one is reached, what makes a plant valid, when a supervisor controls it; how a plant lies in memory. Plain laws; no program in sight.
-/
import Derived.Test.YtpoleaekcjjedaaGreatDoorF1
namespace Go.Proofs.YtpoleaekcjjedaaGreatDoor
open Go Go.RowKit

/-- The text of an edge's label. -/
def labAt (t : Lts) (e : Edge) : ByteArray := t.labels.getD e.lab.toNat ByteArray.empty
def hitB (t : Lts) (q : Int) (l : ByteArray) (e : Edge) : Bool := (e.src == q) && ((labAt t e).toList == l.toList)
/-- The state to which a label leads, or -1. -/
def goTo (t : Lts) (q : Int) (l : ByteArray) : Int :=
 if q < 0 then -1 else ((t.edges.find? (hitB t q l)).map Edge.dst).getD (-1)
/-- The state of the property behind an edge of the model, or -1. -/
def toState (t p : Lts) (e : Edge) (q : Int) : Int := if e.lab = 0 then q else goTo p q (labAt t e)
/-- The edges from a state. -/
def outOf (t : Lts) (k : Int) : List Edge := t.edges.filter fun e => e.src == k

/-- The place of a pair. -/
def idx (p : Lts) (x y : Int) : Nat := (x * p.states + y).toNat
def goesB (t p : Lts) (c : List Bool) (l : List Edge) (q : Int) : Bool :=
 l.any fun e => decide (0 ≤ toState t p e q) && c.getD (idx p e.dst (toState t p e q)) false
def stepB (t p : Lts) (k q : Nat) (c : List Bool) : List Bool :=
 if (c.getD (idx p k q) false && !(outOf t k).isEmpty) && !(goesB t p c (outOf t k) q) then c.set (idx p k q) false else c
def rowTo (t p : Lts) (k n : Nat) (c : List Bool) : List Bool := (List.range n).foldl (fun c q => stepB t p k q c) c
def sweepTo (t p : Lts) (n : Nat) (c : List Bool) : List Bool := (List.range n).foldl (fun c k => rowTo t p k p.states.toNat c) c
def sweepB (t p : Lts) (c : List Bool) : List Bool := sweepTo t p t.states.toNat c

theorem rowTo_zero (t p : Lts) (k : Nat) (c : List Bool) : rowTo t p k 0 c = c := rfl
theorem rowTo_succ (t p : Lts) (k n : Nat) (c : List Bool) : rowTo t p k (n + 1) c = stepB t p k n (rowTo t p k n c) := by unfold rowTo; rw [List.range_succ, List.foldl_append]; rfl
theorem sweepTo_zero (t p : Lts) (c : List Bool) : sweepTo t p 0 c = c := rfl
theorem sweepTo_succ (t p : Lts) (n : Nat) (c : List Bool) : sweepTo t p (n + 1) c = rowTo t p n p.states.toNat (sweepTo t p n c) := by unfold sweepTo; rw [List.range_succ, List.foldl_append]; rfl

/-- What became of c0: nothing, or fewer are left. -/
def Less (c0 c : List Bool) (b : Bool) : Prop := c.length = c0.length ∧ ((b = true ∧ c.count true < c0.count true) ∨ (b = false ∧ c = c0))

theorem Less.refl (c : List Bool) : Less c c false := ⟨rfl, .inr ⟨rfl, rfl⟩⟩
theorem count_set {c : List Bool} {i : Nat} (h : c.getD i false = true) : (c.set i false).count true < c.count true := by
 induction c generalizing i with
 | nil => simp at h
 | cons x r ih =>
  cases i with
  | zero =>
   have : x = true := by simpa [List.getD] using h
   subst this
   simp
  | succ i =>
   have := ih (i := i) (by simpa [List.getD] using h)
   simp only [List.set_cons_succ, List.count_cons]
   omega
theorem Less.set {c0 c : List Bool} {b : Bool} (h : Less c0 c b) {i : Nat} (hi : c.getD i false = true) : Less c0 (c.set i false) true := by
 refine ⟨by rw [List.length_set]; exact h.1, .inl ⟨rfl, ?_⟩⟩
 have h1 := count_set hi
 rcases h.2 with ⟨-, h2⟩ | ⟨-, rfl⟩
 ·omega
 ·exact h1
theorem Less.trans {a b c : List Bool} {x y : Bool} (h : Less a b x) (k : Less b c y) : Less a c (x || y) := by
 refine ⟨k.1.trans h.1, ?_⟩
 rcases h.2 with ⟨rfl, h2⟩ | ⟨rfl, rfl⟩ <;> rcases k.2 with ⟨rfl, k2⟩ | ⟨rfl, rfl⟩
 ·exact .inl ⟨rfl, by omega⟩
 ·exact .inl ⟨rfl, h2⟩
 ·exact .inl ⟨rfl, k2⟩
 ·exact .inr ⟨rfl, rfl⟩

/-- Some number of sweeps. -/
def sweeps (t p : Lts) : Nat → List Bool → List Bool
 | 0, c => c
 | n + 1, c => sweeps t p n (sweepB t p c)
theorem sweeps_succ (t p : Lts) (n : Nat) (c : List Bool) : sweeps t p (n + 1) c = sweepB t p (sweeps t p n c) := by
 induction n generalizing c with
 | zero => rfl
 | succ n ih => rw [sweeps, ih]; rfl
theorem sweeps_fixed {t p : Lts} {c : List Bool} (h : sweepB t p c = c) (n : Nat) : sweeps t p n c = c := by
 induction n with
 | zero => rfl
 | succ n ih => rw [sweeps, h, ih]
theorem sweeps_add (t p : Lts) (m n : Nat) (c : List Bool) : sweeps t p (m + n) c = sweeps t p n (sweeps t p m c) := by
 induction m generalizing c with
 | zero => rw [Nat.zero_add]; rfl
 | succ m ih => rw [show m + 1 + n = (m + n) + 1 from by omega, sweeps, ih]; rfl
/-- The list at which the sweeps come to rest. -/
def Rest (t p : Lts) (c0 c : List Bool) : Prop := (∃ n, c = sweeps t p n c0) ∧ sweepB t p c = c
theorem Rest.unique {t p : Lts} {c0 a b : List Bool} (ha : Rest t p c0 a) (hb : Rest t p c0 b) : a = b := by
 obtain ⟨⟨m, hm⟩, fa⟩ := ha
 obtain ⟨⟨n, hn⟩, fb⟩ := hb
 have h1 : sweeps t p (m + n) c0 = a := by rw [sweeps_add, ← hm, sweeps_fixed fa]
 have h2 : sweeps t p (n + m) c0 = b := by rw [sweeps_add, ← hn, sweeps_fixed fb]
 rw [← h1, ← h2, Nat.add_comm]

/-- The pairs that are marked. -/
def pairsOf (p : Lts) (c : List Bool) : List (List Int) :=
 ((List.range c.length).filter fun i => c.getD i false).map fun (i : Nat) => [(i : Int) / p.states, (i : Int) % p.states]

theorem outOf_ok {t : Lts} (hv : Valid t) (k : Int) : ∀ e ∈ outOf t k, EdgeOk t e := by
 intro e he
 have := (List.mem_filter.1 he).1
 obtain ⟨i, hi, rfl⟩ := List.mem_iff_getElem.1 this
 exact hv.edge i hi
theorem goTo_range {p : Lts} (hv : Valid p) (q : Int) (l : ByteArray) : -1 ≤ goTo p q l ∧ goTo p q l < p.states := by
 have h1 := hv.st0
 unfold goTo
 split
 ·omega
 ·cases hf : p.edges.find? (hitB p q l) with
  | none => simp; omega
  | some e =>
   obtain ⟨i, hi, rfl⟩ := List.mem_iff_getElem.1 (List.mem_of_find?_eq_some hf)
   have := hv.edge i hi
   have h2 := this.d0
   have h3 := this.d1
   simp
   omega
theorem toState_range {t p : Lts} (hv : Valid p) (e : Edge) {q : Int} (h0 : 0 ≤ q) (h1 : q < p.states) : -1 ≤ toState t p e q ∧ toState t p e q < p.states := by
 unfold toState
 split
 ·omega
 ·exact goTo_range hv q _
theorem any_take {α : Type} (l : List α) (f : α → Bool) (j : Nat) (h : j < l.length) : (l.take (j + 1)).any f = ((l.take j).any f || f l[j]) := by
 rw [List.take_succ_eq_append_getElem h, List.any_append]
 simp
theorem pair_lt {S P k q : Nat} (hk : k < S) (hq : q < P) : k * P + q < S * P := by
 have := Nat.mul_le_mul_right P (Nat.succ_le_of_lt hk)
 rw [Nat.succ_mul] at this
 omega

theorem stepB_no1 {t p : Lts} {k q : Nat} {c : List Bool} (h : c.getD (idx p k q) false = false) : stepB t p k q c = c := by unfold stepB; rw [h]; simp
theorem stepB_no2 {t p : Lts} {k q : Nat} {c : List Bool} (h : (outOf t k).isEmpty = true) : stepB t p k q c = c := by unfold stepB; rw [h]; simp
theorem stepB_no3 {t p : Lts} {k q : Nat} {c : List Bool} (h : goesB t p c (outOf t k) q = true) : stepB t p k q c = c := by unfold stepB; rw [h]; simp
theorem stepB_set {t p : Lts} {k q : Nat} {c : List Bool} (h1 : c.getD (idx p k q) false = true) (h2 : (outOf t k).isEmpty = false) (h3 : goesB t p c (outOf t k) q = false) : stepB t p k q c = c.set (idx p k q) false := by
 unfold stepB; rw [h1, h2, h3]; rfl
theorem idx_nat {p : Lts} {P : Nat} (hP : (P : Int) = p.states) (x y : Nat) : idx p x y = x * P + y := by
 unfold idx
 rw [← hP, ← Int.natCast_mul, ← Int.natCast_add, Int.toNat_natCast]
theorem cell_bool {w : World} {base e g n cap : Nat} {c : List Bool} (h : w.ownsRow base e 1 (.slice (some ⟨g, 0, none⟩) n cap) n (c.map Value.bool)) {i : Nat} (hi : i < n) : w.cell? ⟨g, i, none⟩ = some (.bool (c.getD i false)) := by
 have hl := h.1
 rw [h.cellAt i (by omega), List.getElem?_map]
 have : i < c.length := by simp at hl; omega
 simp [List.getD, this]

/-- Does one of the first j edges lead to a pair that is still there? -/
def anyTo (t p : Lts) (c : List Bool) (l : List Edge) (q : Int) (j : Nat) : Bool :=
 (l.take j).any fun e => decide (0 ≤ toState t p e q) && c.getD (idx p e.dst (toState t p e q)) false
theorem anyTo_zero (t p : Lts) (c : List Bool) (l : List Edge) (q : Int) : anyTo t p c l q 0 = false := rfl
theorem anyTo_succ (t p : Lts) (c : List Bool) (l : List Edge) (q : Int) (j : Nat) (h : j < l.length) :
  anyTo t p c l q (j + 1) = (anyTo t p c l q j || (decide (0 ≤ toState t p l[j] q) && c.getD (idx p l[j].dst (toState t p l[j] q)) false)) := any_take l _ j h
theorem anyTo_all (t p : Lts) (c : List Bool) (l : List Edge) (q : Int) : anyTo t p c l q l.length = goesB t p c l q := by unfold anyTo goesB; rw [List.take_length]

end Go.Proofs.YtpoleaekcjjedaaGreatDoor

namespace Go.Proofs.YtpoleaekcjjedaaGreatDoor
open Go Go.RowKit

theorem less_lt : ∀ (x y : List UInt8), Op.bytesLess x y = decide (x < y)
 | [], [] => by simp [Op.bytesLess]
 | _ :: _, [] => by simp [Op.bytesLess]
 | [], _ :: _ => by simp [Op.bytesLess]
 | a :: x, b :: y => by
  rw [Op.bytesLess, less_lt x y]
  simp only [List.cons_lt_cons_iff]
  by_cases h1 : a < b <;> by_cases h2 : a = b <;> by_cases h3 : x < y <;> simp [h1, h2, h3]

theorem less_trans {x y z : List UInt8} (h1 : Op.bytesLess x y = true) (h2 : Op.bytesLess y z = true) : Op.bytesLess x z = true := by
 rw [less_lt, decide_eq_true_eq] at *
 exact List.lt_trans h1 h2
theorem less_irrefl (x : List UInt8) : Op.bytesLess x x = false := by
 rw [less_lt, decide_eq_false_iff_not]
 exact List.lt_irrefl x
theorem less_leq (x y : List UInt8) : (Op.bytesLess x y || x == y) = !Op.bytesLess y x := by
 rw [less_lt, less_lt]
 by_cases h : y < x
 ·have h1 : ¬ x < y := fun h' => List.lt_irrefl x (List.lt_trans h' h)
  have h2 : x ≠ y := fun e => List.lt_irrefl x (by rw [e] at h ⊢; exact h)
  simp [h, h1, h2]
 ·by_cases h1 : x < y
  ·simp [h, h1]
  ·have e : x = y := List.le_antisymm (List.not_lt.1 h) (List.not_lt.1 h1)
   simp [e]

theorem labels_less {ls : List ByteArray} (h : LabelsOk ls) (i j : Nat) (hi : 1 ≤ i) (hij : i < j) (hj : j < ls.length) : strLess ls[i] ls[j] = true := by
 induction j with
 | zero => omega
 | succ j ih =>
  rcases Nat.lt_or_ge i j with hlt | hge
  ·exact less_trans (ih hlt (by omega)) (h.rise j hj (by omega))
  ·obtain rfl : i = j := by omega
   exact h.rise i hj hi
theorem labels_inj {ls : List ByteArray} (h : LabelsOk ls) (i j : Nat) (hi : i < ls.length) (hj : j < ls.length) (e : ls[i].toList = ls[j].toList) : i = j := by
 have key : ∀ i j (hi : i < ls.length) (hj : j < ls.length), ls[i].toList = ls[j].toList → ¬ i < j := by
  intro i j hi hj e hlt
  by_cases h0 : i = 0
  ·subst h0
   exact h.other j hj (by omega) (by rw [← e]; exact h.first hi)
  ·have := labels_less h i j (by omega) hlt hj
   unfold strLess at this
   rw [e, less_irrefl] at this
   cases this
 rcases Nat.lt_trichotomy i j with hlt | heq | hgt
 ·exact absurd hlt (key i j hi hj e)
 ·exact heq
 ·exact absurd hgt (key j i hj hi e.symm)

/-- Edges in order: by source, label, destination. -/
def keyLt (a b : Edge) : Prop := a.src < b.src ∨ (a.src = b.src ∧ (a.lab < b.lab ∨ (a.lab = b.lab ∧ a.dst < b.dst)))
theorem keyLt_of {a b : Edge} (h : edgeLess a b = true) : keyLt a b := by
 unfold edgeLess at h
 unfold keyLt
 by_cases h1 : a.src = b.src
 ·by_cases h2 : a.lab = b.lab
  ·simp [h1, h2] at h; omega
  ·simp [h1, h2] at h; omega
 ·simp [h1] at h; omega
theorem keyLt_trans {a b c : Edge} (h1 : keyLt a b) (h2 : keyLt b c) : keyLt a c := by unfold keyLt at *; omega
theorem edges_less {t : Lts} (hv : Valid t) (i j : Nat) (hij : i < j) (hj : j < t.edges.length) : keyLt t.edges[i] t.edges[j] := by
 induction j with
 | zero => omega
 | succ j ih =>
  rcases Nat.lt_or_ge i j with hlt | hge
  ·exact keyLt_trans (ih hlt (by omega)) (keyLt_of (hv.rise j hj))
  ·obtain rfl : i = j := by omega
   exact keyLt_of (hv.rise i hj)

theorem filter_one {α : Type} {f : α → Bool} : ∀ {l : List α}, (∀ i j (hi : i < l.length) (hj : j < l.length), i < j → ¬ (f l[i] = true ∧ f l[j] = true)) → (l.filter f).length ≤ 1
 | [], _ => by simp
 | x :: r, h => by
  rw [List.filter_cons]
  cases hx : f x with
  | true =>
   rw [if_pos rfl]
   have : r.filter f = [] := by
    rw [List.filter_eq_nil_iff]
    intro y hy
    obtain ⟨j, hj, rfl⟩ := List.mem_iff_getElem.1 hy
    intro hf
    exact h 0 (j + 1) (by simp) (by simpa using hj) (by omega) ⟨hx, by simpa using hf⟩
   rw [this]; simp
  | false =>
   rw [if_neg (by simp)]
   exact filter_one fun i j hi hj hij => by
    have := h (i + 1) (j + 1) (by simpa using hi) (by simpa using hj) (by omega)
    simpa using this

theorem labAt_idx {t : Lts} {e : Edge} (h : EdgeOk t e) : ∃ hlt : e.lab.toNat < t.labels.length, labAt t e = t.labels[e.lab.toNat] := by
 have h0 := h.l0
 have h1 := h.l1
 have hlt : e.lab.toNat < t.labels.length := by omega
 exact ⟨hlt, by unfold labAt; rw [List.getD_eq_getElem?_getD, List.getElem?_eq_getElem hlt]; rfl⟩

set_option maxRecDepth 100000 in
theorem hits_one {p : Lts} (hv : Valid p) (hs : Single p) (q : Int) (l : ByteArray) : (p.edges.filter (hitB p q l)).length ≤ 1 := by
 refine filter_one fun i j hi hj hij ⟨h1, h2⟩ => ?_
 unfold hitB at h1 h2
 simp only [Bool.and_eq_true, beq_iff_eq] at h1 h2
 obtain ⟨hl1, e1⟩ := labAt_idx (hv.edge i hi)
 obtain ⟨hl2, e2⟩ := labAt_idx (hv.edge j hj)
 rw [e1] at h1
 rw [e2] at h2
 have hlab : p.edges[i].lab = p.edges[j].lab := by
  have h3 := labels_inj hv.labels _ _ hl1 hl2 (h1.2.trans h2.2.symm)
  have h4 := (hv.edge i hi).l0
  have h5 := (hv.edge j hj).l0
  omega
 have ha : p.edges[i + 1].src = p.edges[i].src ∧ p.edges[i + 1].lab = p.edges[i].lab := by
  have k1 := edges_less hv i (i + 1) (by omega) (by omega)
  by_cases e : i + 1 = j
  ·have e' : p.edges[i + 1] = p.edges[j] := by congr
   rw [e']
   exact ⟨h2.1.trans h1.1.symm, hlab.symm⟩
  ·have k2 := edges_less hv (i + 1) j (by omega) hj
   unfold keyLt at k1 k2
   omega
 exact hs.one i (by omega) ha

/-- The states behind the edges that a label's text takes. -/
def behind (p : Lts) (q : Int) (l : ByteArray) : List Int := (p.edges.filter (hitB p q l)).map Edge.dst
theorem behind_one {p : Lts} (hv : Valid p) (hs : Single p) (q : Int) (l : ByteArray) : (behind p q l).length ≤ 1 := by
 unfold behind; rw [List.length_map]; exact hits_one hv hs q l
theorem find_filter {α : Type} (f : α → Bool) : ∀ l : List α, l.find? f = (l.filter f).head?
 | [] => rfl
 | x :: r => by
  rw [List.find?_cons, List.filter_cons]
  cases f x with
  | true => rfl
  | false => rw [if_neg (by simp)]; exact find_filter f r
theorem goTo_behind {p : Lts} {q : Int} (h : 0 ≤ q) (l : ByteArray) : goTo p q l = (behind p q l).head?.getD (-1) := by
 unfold goTo behind
 rw [if_neg (by omega), find_filter, List.head?_map]

theorem find_at {α : Type} {p : α → Bool} {l : List α} {k : Nat} (hk : k < l.length) (h1 : ∀ j (h : j < l.length), j < k → p l[j] = false) (h2 : p l[k] = true) : l.find? p = some l[k] := by
 rw [List.find?_eq_some_iff_getElem]
 exact ⟨h2, k, hk, rfl, fun j hj => by simp [h1 j (by omega) hj]⟩
theorem find_none {α : Type} {p : α → Bool} {l : List α} (h1 : ∀ j (h : j < l.length), p l[j] = false) : l.find? p = none := by
 rw [List.find?_eq_none]
 intro x hx
 obtain ⟨j, hj, rfl⟩ := List.mem_iff_getElem.1 hx
 simp [h1 j hj]
theorem labAt_get {t : Lts} {e : Edge} (h : e.lab.toNat < t.labels.length) : t.labels[e.lab.toNat] = labAt t e := by
 unfold labAt
 simp [List.getD, h]

end Go.Proofs.YtpoleaekcjjedaaGreatDoor

namespace Go.Proofs.YtpoleaekcjjedaaGreatDoor
open Go Go.RowKit

/-! A plant, a supervisor and a requirement: the triples of states that are reached, and those from which a marked one is reached. Plain definitions; no program in sight. -/

structure Tri where
 x : Int
 y : Int
 z : Int
 deriving DecidableEq

def labIn (t : Lts) (l : ByteArray) : Bool := t.labels.any fun s => s.toList == l.toList
/-- Does a system let a label go along? And the state that it is in then. -/
def alongB (t : Lts) (k : Int) (l : ByteArray) : Bool := !labIn t l || decide (0 ≤ goTo t k l)
def alongV (t : Lts) (k : Int) (l : ByteArray) : Int := if labIn t l then goTo t k l else k

structure Net where
 rows : List Tri
 edges : List (Nat × Nat)

def place (rows : List Tri) (r : Tri) : Nat := rows.findIdx fun q => q == r
def addRow (rows : List Tri) (r : Tri) : List Tri := if place rows r < rows.length then rows else rows ++ [r]

/-- One edge of the plant, from the triple number n on. -/
def edgeStep (p s r : Lts) (ctl : ByteArray → Bool) (n : Nat) (cur : Tri) (st : Net) (e : Edge) : Option Net :=
 if alongB s cur.y (labAt p e) = true then
  if alongB r cur.z (labAt p e) = true then
   some ⟨addRow st.rows ⟨e.dst, alongV s cur.y (labAt p e), alongV r cur.z (labAt p e)⟩, st.edges ++ [(n, place st.rows ⟨e.dst, alongV s cur.y (labAt p e), alongV r cur.z (labAt p e)⟩)]⟩
  else none
 else if ctl (labAt p e) = true then some st else none
/-- All edges of a list, or none where one fails. -/
def edgesStep (p s r : Lts) (ctl : ByteArray → Bool) (n : Nat) (cur : Tri) : List Edge → Net → Option Net
 | [], st => some st
 | e :: l, st => (edgeStep p s r ctl n cur st e).bind (edgesStep p s r ctl n cur l)
def expand (p s r : Lts) (ctl : ByteArray → Bool) (n : Nat) (st : Net) : Option Net :=
 match st.rows[n]? with
 | none => some st
 | some cur => edgesStep p s r ctl n cur (outOf p cur.x) st
def stateAt (p s r : Lts) (ctl : ByteArray → Bool) : Nat → Option Net
 | 0 => some ⟨[⟨p.initial, s.initial, r.initial⟩], []⟩
 | n + 1 => (stateAt p s r ctl n).bind (expand p s r ctl n)

/-- The search has come to triple number n, and not to an end before. -/
def Come (p s r : Lts) (ctl : ByteArray → Bool) (n : Nat) (st : Net) : Prop := stateAt p s r ctl n = some st ∧ ∀ k st', k < n → stateAt p s r ctl k = some st' → k < st'.rows.length
/-- The search fails at triple number n. -/
def FailAt (p s r : Lts) (ctl : ByteArray → Bool) (n : Nat) : Prop := ∃ st, Come p s r ctl n st ∧ n < st.rows.length ∧ expand p s r ctl n st = none
/-- The search has found all. -/
def FoundAll (p s r : Lts) (ctl : ByteArray → Bool) (st : Net) : Prop := ∃ n, Come p s r ctl n st ∧ st.rows.length = n

theorem stateAt_none {p s r : Lts} {ctl : ByteArray → Bool} {n : Nat} (h : stateAt p s r ctl n = none) (k : Nat) : stateAt p s r ctl (n + k) = none := by
 induction k with
 | zero => exact h
 | succ k ih => rw [← Nat.add_assoc, stateAt, ih]; rfl
theorem Come.zero (p s r : Lts) (ctl : ByteArray → Bool) : Come p s r ctl 0 ⟨[⟨p.initial, s.initial, r.initial⟩], []⟩ := ⟨rfl, fun _ _ h => by omega⟩
theorem Come.succ {p s r : Lts} {ctl : ByteArray → Bool} {n : Nat} {st st' : Net} (h : Come p s r ctl n st) (hn : n < st.rows.length) (he : expand p s r ctl n st = some st') : Come p s r ctl (n + 1) st' := by
 refine ⟨by rw [stateAt, h.1]; exact he, fun k sk hk hs => ?_⟩
 by_cases e : k = n
 ·subst e
  rw [h.1] at hs
  cases hs
  exact hn
 ·exact h.2 k sk (by omega) hs
theorem FoundAll.unique {p s r : Lts} {ctl : ByteArray → Bool} {a b : Net} (ha : FoundAll p s r ctl a) (hb : FoundAll p s r ctl b) : a = b := by
 obtain ⟨m, hm, lm⟩ := ha
 obtain ⟨n, hn, ln⟩ := hb
 rcases Nat.lt_trichotomy m n with h | h | h
 ·have := hn.2 m a h hm.1; omega
 ·subst h
  have := hm.1.symm.trans hn.1
  cases this
  rfl
 ·have := hm.2 n b h hn.1; omega
theorem FoundAll.not_fail {p s r : Lts} {ctl : ByteArray → Bool} {a : Net} (ha : FoundAll p s r ctl a) (n : Nat) : ¬ FailAt p s r ctl n := by
 rintro ⟨st, hc, hlt, he⟩
 obtain ⟨m, hm, lm⟩ := ha
 rcases Nat.lt_trichotomy m n with h | h | h
 ·have := hc.2 m a h hm.1; omega
 ·subst h
  have := hm.1.symm.trans hc.1
  cases this
  omega
 ·have h1 : stateAt p s r ctl (n + 1) = none := by rw [stateAt, hc.1]; exact he
  have h2 := stateAt_none h1 (m - (n + 1))
  rw [show n + 1 + (m - (n + 1)) = m from by omega, hm.1] at h2
  cases h2

/-- From a row edges lead to a marked one. -/
inductive Co (edges : List (Nat × Nat)) (mk : Nat → Bool) : Nat → Prop
 | here {i : Nat} (h : mk i = true) : Co edges mk i
 | step {a b : Nat} (h : (a, b) ∈ edges) (hb : Co edges mk b) : Co edges mk a

theorem Co.closed {edges : List (Nat × Nat)} {mk : Nat → Bool} {good : Nat → Prop} (h1 : ∀ i, mk i = true → good i) (h2 : ∀ a b, (a, b) ∈ edges → good b → good a) {i : Nat} (h : Co edges mk i) : good i := by
 induction h with
 | here h => exact h1 _ h
 | step h _ ih => exact h2 _ _ h ih

/-- Numbers below n, no two the same: at most n. -/
theorem nodup_lt : ∀ (n : Nat) (l : List Nat), l.Nodup → (∀ x ∈ l, x < n) → l.length ≤ n
 | 0, l, _, h => by
  cases l with
  | nil => simp
  | cons a r => exact absurd (h a (by simp)) (by omega)
 | n + 1, l, hd, h => by
  have h1 := nodup_lt n (l.filter fun x => x != n) (hd.filter _) (fun x hx => by
   rw [List.mem_filter] at hx
   have := h x hx.1
   have h2 : x ≠ n := by simpa using hx.2
   omega)
  have h2 : l.length ≤ (l.filter fun x => x != n).length + 1 := by
   clear h1 h
   induction l with
   | nil => simp
   | cons a r ih =>
    rw [List.nodup_cons] at hd
    by_cases e : a = n
    ·subst e
     have : r.filter (fun x => x != a) = r := by
      rw [List.filter_eq_self]
      intro x hx
      have : x ≠ a := fun e => hd.1 (e ▸ hx)
      simpa using this
     simp [this]
    ·have := ih hd.2
     simp [e]
     omega
  omega

def InBox (q : Tri) : Prop := (0 ≤ q.x ∧ q.x < 40) ∧ (0 ≤ q.y ∧ q.y < 40) ∧ (0 ≤ q.z ∧ q.z < 40)
def codeT (q : Tri) : Nat := ((q.x * 40 + q.y) * 40 + q.z).toNat
theorem codeT_lt {q : Tri} (h : InBox q) : codeT q < 64000 := by unfold codeT; unfold InBox at h; omega
theorem codeT_inj {a b : Tri} (ha : InBox a) (hb : InBox b) (h : codeT a = codeT b) : a = b := by
 obtain ⟨x, y, z⟩ := a
 obtain ⟨u, v, w⟩ := b
 unfold codeT at h
 unfold InBox at ha hb
 simp only at *
 have h1 : z = w := by omega
 have h2 : y = v := by omega
 have h3 : x = u := by omega
 rw [h1, h2, h3]
theorem rows_bound {l : List Tri} (hd : l.Nodup) (h : ∀ q ∈ l, InBox q) : l.length ≤ 64000 := by
 have h1 : (l.map codeT).Nodup := by
  rw [List.nodup_iff_pairwise_ne, List.pairwise_map]
  refine List.Pairwise.imp_of_mem ?_ (List.nodup_iff_pairwise_ne.1 hd)
  intro a b ha hb hne e
  exact hne (codeT_inj (h a ha) (h b hb) e)
 have := nodup_lt 64000 (l.map codeT) h1 (fun x hx => by
  obtain ⟨q, hq, rfl⟩ := List.mem_map.1 hx
  exact codeT_lt (h q hq))
 simpa using this


/-! From which rows edges lead to a marked one: by sweeps over the edges, and by a queue. Plain laws. -/

def falses (l : List Bool) : Nat := l.countP (fun b => !b)
theorem falses_le (l : List Bool) : falses l ≤ l.length := List.countP_le_length
theorem falses_set : ∀ {l : List Bool} {i : Nat}, l[i]? = some false → falses (l.set i true) + 1 = falses l
 | [], i, h => by simp at h
 | b :: l, 0, h => by
  simp only [List.getElem?_cons_zero, Option.some.injEq] at h
  subst h
  simp [falses]
 | b :: l, i + 1, h => by
  simp only [List.getElem?_cons_succ] at h
  have := falses_set h
  unfold falses at *
  rw [List.set_cons_succ, List.countP_cons, List.countP_cons]
  omega

/-- The rows known so far are right, and the marked ones are known. -/
structure CoOk (edges : List (Nat × Nat)) (mk : Nat → Bool) (good : List Bool) : Prop where
 sound : ∀ i, good[i]? = some true → Co edges mk i
 marked : ∀ i, mk i = true → good[i]? = some true

def CoDone (edges : List (Nat × Nat)) (good : List Bool) : Prop := ∀ a b, (a, b) ∈ edges → good[b]? = some true → good[a]? = some true

theorem CoOk.iff {edges : List (Nat × Nat)} {mk : Nat → Bool} {good : List Bool} (h : CoOk edges mk good) (hd : CoDone edges good) (i : Nat) : good[i]? = some true ↔ Co edges mk i :=
 ⟨h.sound i, fun hc => hc.closed (good := fun i => good[i]? = some true) h.marked hd⟩

theorem set_true_get {good : List Bool} {a i : Nat} (ha : a < good.length) : (good.set a true)[i]? = some true ↔ i = a ∨ good[i]? = some true := by
 by_cases e : i = a
 ·subst e
  rw [List.getElem?_set_self ha]
  simp
 ·rw [List.getElem?_set_ne (Ne.symm e)]
  simp [e]

theorem CoOk.set {edges : List (Nat × Nat)} {mk : Nat → Bool} {good : List Bool} (h : CoOk edges mk good) {a b : Nat} (he : (a, b) ∈ edges) (hb : good[b]? = some true) (ha : a < good.length) : CoOk edges mk (good.set a true) where
 sound i hi := by
  rcases (set_true_get ha).1 hi with rfl | hi
  ·exact .step he (h.sound b hb)
  ·exact h.sound i hi
 marked i hi := (set_true_get ha).2 (.inr (h.marked i hi))

/-- One sweep over the edges, up to the edge number k. -/
structure Sweep (edges : List (Nat × Nat)) (mk : Nat → Bool) (good0 good : List Bool) (k : Nat) (more : Bool) : Prop where
 ok : CoOk edges mk good
 len : good.length = good0.length
 le : falses good ≤ falses good0
 no : more = false → good = good0 ∧ ∀ i (h : i < edges.length), i < k → good[edges[i].2]? = some true → good[edges[i].1]? = some true
 yes : more = true → falses good < falses good0

theorem Sweep.start {edges : List (Nat × Nat)} {mk : Nat → Bool} {good : List Bool} (h : CoOk edges mk good) : Sweep edges mk good good 0 false :=
 ⟨h, rfl, Nat.le_refl _, fun _ => ⟨rfl, fun _ _ h => absurd h (by omega)⟩, fun h => by cases h⟩
theorem Sweep.turn {edges : List (Nat × Nat)} {mk : Nat → Bool} {good0 good : List Bool} {k : Nat} {more : Bool} (h : Sweep edges mk good0 good k more) (hk : k < edges.length) (h2 : good[edges[k].2]? = some true) (h1 : good[edges[k].1]? = some false) :
  Sweep edges mk good0 (good.set edges[k].1 true) (k + 1) true where
 ok := h.ok.set (a := edges[k].1) (b := edges[k].2) (by exact List.getElem_mem hk) h2 (List.getElem?_eq_some_iff.1 h1).1
 len := by rw [List.length_set]; exact h.len
 le := by have := falses_set h1; have := h.le; omega
 no := fun e => by cases e
 yes := fun _ => by have := falses_set h1; have := h.le; omega
theorem Sweep.skip {edges : List (Nat × Nat)} {mk : Nat → Bool} {good0 good : List Bool} {k : Nat} {more : Bool} (h : Sweep edges mk good0 good k more) (hk : k < edges.length) (h1 : good[edges[k].2]? = some true → good[edges[k].1]? = some true) :
  Sweep edges mk good0 good (k + 1) more where
 ok := h.ok
 len := h.len
 le := h.le
 no := fun e => ⟨(h.no e).1, fun i hi hlt => by
  by_cases e1 : i = k
  ·subst e1; exact h1
  ·exact (h.no e).2 i hi (by omega)⟩
 yes := h.yes
theorem Sweep.done {edges : List (Nat × Nat)} {mk : Nat → Bool} {good0 good : List Bool} (h : Sweep edges mk good0 good edges.length false) : CoDone edges good := by
 intro a b hm hb
 obtain ⟨i, hi, e⟩ := List.mem_iff_getElem.1 hm
 have := (h.no rfl).2 i hi hi
 rw [e] at this
 exact this hb

/-- The rows from which an edge leads to row n. -/
def backOf (edges : List (Nat × Nat)) (n : Nat) : List Nat := (edges.filter fun e => e.2 == n).map (·.1)
theorem mem_backOf {edges : List (Nat × Nat)} {n a : Nat} : a ∈ backOf edges n ↔ (a, n) ∈ edges := by
 unfold backOf
 simp only [List.mem_map, List.mem_filter, beq_iff_eq]
 constructor
 ·rintro ⟨⟨x, y⟩, ⟨h1, h2⟩, h3⟩
  simp only at h2 h3
  subst h2 h3
  exact h1
 ·exact fun h => ⟨(a, n), ⟨h, rfl⟩, rfl⟩
theorem backOf_append (edges : List (Nat × Nat)) (a b n : Nat) : backOf (edges ++ [(a, b)]) n = if b = n then backOf edges n ++ [a] else backOf edges n := by
 unfold backOf
 rw [List.filter_append, List.map_append]
 by_cases e : b = n
 ·simp [e]
 ·simp [e]

/-- The queue: what is known and not in it has been followed back; of row i only the first j rows. -/
structure Queue (edges : List (Nat × Nat)) (mk : Nat → Bool) (good : List Bool) (todo : List Nat) (i j : Nat) : Prop where
 ok : CoOk edges mk good
 known : ∀ b ∈ todo, good[b]? = some true
 back : ∀ a b, (a, b) ∈ edges → good[b]? = some true → b ∉ todo → (b = i → a ∈ (backOf edges i).take j) → good[a]? = some true

theorem Queue.done {edges : List (Nat × Nat)} {mk : Nat → Bool} {good : List Bool} {i : Nat} (h : Queue edges mk good [] i (backOf edges i).length) : CoDone edges good :=
 fun a b he hb => h.back a b he hb (by simp) (fun e => by rw [List.take_length]; exact mem_backOf.2 (e ▸ he))
theorem Queue.pop {edges : List (Nat × Nat)} {mk : Nat → Bool} {good : List Bool} {i n : Nat} {todo : List Nat} (h : Queue edges mk good (n :: todo) i (backOf edges i).length) : Queue edges mk good todo n 0 where
 ok := h.ok
 known b hb := h.known b (by simp [hb])
 back a b he hb hn hi := by
  by_cases e : b = n
  ·have := hi e
   simp at this
  ·exact h.back a b he hb (by simp [e, hn]) (fun e => by rw [List.take_length]; exact mem_backOf.2 (e ▸ he))
theorem take_succ_mem {l : List Nat} {j a : Nat} (hj : j < l.length) (h : a ∈ l.take (j + 1)) : a ∈ l.take j ∨ a = l[j] := by
 rw [List.take_succ_eq_append_getElem hj, List.mem_append, List.mem_singleton] at h
 exact h
theorem Queue.skip {edges : List (Nat × Nat)} {mk : Nat → Bool} {good : List Bool} {i j : Nat} {todo : List Nat} (h : Queue edges mk good todo i j) (hj : j < (backOf edges i).length) (hg : good[(backOf edges i)[j]]? = some true) : Queue edges mk good todo i (j + 1) where
 ok := h.ok
 known := h.known
 back a b he hb hn hi := by
  by_cases e : b = i
  ·rcases take_succ_mem hj (hi e) with h1 | h1
   ·exact h.back a b he hb hn (fun _ => h1)
   ·rw [h1]; exact hg
  ·exact h.back a b he hb hn (fun e' => absurd e' e)
theorem Queue.push {edges : List (Nat × Nat)} {mk : Nat → Bool} {good : List Bool} {i j : Nat} {todo : List Nat} (h : Queue edges mk good todo i j) (hj : j < (backOf edges i).length) (hi : good[i]? = some true) (hg : good[(backOf edges i)[j]]? = some false) :
  Queue edges mk (good.set (backOf edges i)[j] true) (todo ++ [(backOf edges i)[j]]) i (j + 1) where
 ok := h.ok.set (mem_backOf.1 (List.getElem_mem hj)) hi (List.getElem?_eq_some_iff.1 hg).1
 known b hb := by
  rw [List.mem_append, List.mem_singleton] at hb
  exact (set_true_get (List.getElem?_eq_some_iff.1 hg).1).2 (hb.elim (fun h' => .inr (h.known b h')) .inl)
 back a b he hb hn hc := by
  rw [List.mem_append, List.mem_singleton, not_or] at hn
  have hl := (List.getElem?_eq_some_iff.1 hg).1
  rcases (set_true_get hl).1 hb with h1 | h1
  ·exact absurd h1 hn.2
  ·refine (set_true_get hl).2 ?_
   by_cases e : b = i
   ·rcases take_succ_mem hj (hc e) with h2 | h2
    ·exact .inr (h.back a b he h1 hn.1 (fun _ => h2))
    ·exact .inl h2
   ·exact .inr (h.back a b he h1 hn.1 (fun e' => absurd e' e))


/-! Plants: what makes one valid; which labels are controlled; when a supervisor controls one. Plain definitions; no program in sight. -/

structure Plant where
 sys : Lts
 marks : List Int
 names : List ByteArray

/-- Numbers that rise, from 0 up to below n. -/
structure Rises (l : List Int) (n : Int) : Prop where
 low : ∀ i (h : i < l.length), 0 ≤ l[i]
 high : ∀ i (h : i < l.length), l[i] < n
 rise : ∀ i (h : i + 1 < l.length), l[i] < l[i + 1]
/-- At most twelve names of actions that rise. -/
structure NamesOk (l : List ByteArray) : Prop where
 most : l.length ≤ 12
 action : ∀ i (h : i < l.length), isAction l[i].data.toList = true
 rise : ∀ i (h : i + 1 < l.length), strLess l[i] l[i + 1] = true
structure Free (t : Lts) : Prop where
 valid : Valid t
 single : Single t
structure PlantOk (p : Plant) : Prop where
 free : Free p.sys
 marks : Rises p.marks p.sys.states
 names : NamesOk p.names

/-- The name of a label. -/
def labName (l : ByteArray) : List UInt8 := l.data.toList.take (openAt l.data.toList)
def ctlOf (p : Plant) (l : ByteArray) : Bool := p.names.any fun s => s.data.toList == labName l
def markOf (p : Plant) (rows : List Tri) (i : Nat) : Bool :=
 match rows[i]? with
 | none => false
 | some q => p.marks.contains q.x

/-- The supervisor s controls the plant for the requirement r. -/
def Controls (p : Plant) (r s : Lts) : Prop := ∃ st, FoundAll p.sys s r (ctlOf p) st ∧ ∀ i, i < st.rows.length → Co st.edges (markOf p st.rows) i
def Supervises (p : Plant) (r s : Lts) : Prop := PlantOk p ∧ Free r ∧ Free s ∧ Controls p r s

theorem Controls.not_fail {p : Plant} {r s : Lts} {n : Nat} (h : FailAt p.sys s r (ctlOf p) n) : ¬ Controls p r s := fun ⟨_, hf, _⟩ => hf.not_fail n h
theorem Controls.iff {p : Plant} {r s : Lts} {st : Net} (h : FoundAll p.sys s r (ctlOf p) st) : Controls p r s ↔ ∀ i, i < st.rows.length → Co st.edges (markOf p st.rows) i :=
 ⟨fun ⟨st', hf, ha⟩ => by rw [h.unique hf]; exact ha, fun ha => ⟨st, h, ha⟩⟩
/-- What both texts know in the end: good holds of all rows exactly if the supervisor controls. -/
theorem controls_good {p : Plant} {r s : Lts} {st : Net} {good : List Bool} (h : FoundAll p.sys s r (ctlOf p) st) (hl : good.length = st.rows.length) (hc : CoOk st.edges (markOf p st.rows) good) (hd : CoDone st.edges good) :
  Controls p r s ↔ ∀ i (h : i < good.length), good[i] = true := by
 rw [Controls.iff h]
 constructor
 ·intro ha i hi
  have := (hc.iff hd i).2 (ha i (by omega))
  rw [List.getElem?_eq_getElem hi] at this
  exact Option.some.inj this
 ·intro ha i hi
  refine (hc.iff hd i).1 ?_
  rw [List.getElem?_eq_getElem (by omega)]
  exact congrArg some (ha i (by omega))

/-! ### what holds on the way of the search -/
theorem place_le (rows : List Tri) (q : Tri) : place rows q ≤ rows.length := by unfold place; exact List.findIdx_le_length
theorem place_lt {rows : List Tri} {q : Tri} : place rows q < rows.length ↔ q ∈ rows := by
 unfold place
 rw [List.findIdx_lt_length]
 simp
theorem place_get {rows : List Tri} {q : Tri} (h : place rows q < rows.length) : rows[place rows q] = q := by
 have := List.findIdx_getElem (p := fun q' => q' == q) (xs := rows) (w := h)
 exact eq_of_beq this
theorem addRow_old {rows : List Tri} {q : Tri} (h : q ∈ rows) : addRow rows q = rows := by unfold addRow; rw [if_pos (place_lt.2 h)]
theorem addRow_new {rows : List Tri} {q : Tri} (h : q ∉ rows) : addRow rows q = rows ++ [q] ∧ place rows q = rows.length := by
 have h1 : ¬ place rows q < rows.length := fun h' => h (place_lt.1 h')
 have := place_le rows q
 exact ⟨by unfold addRow; rw [if_neg h1], by omega⟩

/-- The rows are within the three systems and no two are the same; the edges lead between rows. -/
structure NetOk (p s r : Lts) (st : Net) : Prop where
 pos : 0 < st.rows.length
 nodup : st.rows.Nodup
 inside : ∀ q ∈ st.rows, (0 ≤ q.x ∧ q.x < p.states) ∧ (0 ≤ q.y ∧ q.y < s.states) ∧ (0 ≤ q.z ∧ q.z < r.states)
 ends : ∀ e ∈ st.edges, e.1 < st.rows.length ∧ e.2 < st.rows.length

theorem NetOk.few {p s r : Lts} {st : Net} (h : NetOk p s r st) (hp : Valid p) (hs : Valid s) (hr : Valid r) : st.rows.length ≤ 64000 :=
 rows_bound h.nodup fun q hq => by
  have h1 := h.inside q hq
  have h2 := hp.st1
  have h3 := hs.st1
  have h4 := hr.st1
  unfold InBox
  omega

theorem NetOk.zero {p s r : Lts} (hp : Valid p) (hs : Valid s) (hr : Valid r) : NetOk p s r ⟨[⟨p.initial, s.initial, r.initial⟩], []⟩ where
 pos := by simp
 nodup := by simp
 inside q hq := by
  rw [List.mem_singleton] at hq
  subst hq
  exact ⟨⟨hp.in0, hp.in1⟩, ⟨hs.in0, hs.in1⟩, hr.in0, hr.in1⟩
 ends e he := by simp at he

theorem alongV_in {t : Lts} (ht : Valid t) {k : Int} (h0 : 0 ≤ k) (h1 : k < t.states) {l : ByteArray} (h : alongB t k l = true) : 0 ≤ alongV t k l ∧ alongV t k l < t.states := by
 unfold alongB at h
 unfold alongV
 cases hl : labIn t l with
 | false => rw [if_neg (by simp)]; exact ⟨h0, h1⟩
 | true =>
  rw [if_pos rfl]
  rw [hl] at h
  exact ⟨by simpa using h, (goTo_range ht k l).2⟩

theorem NetOk.edge {p s r : Lts} {ctl : ByteArray → Bool} {n : Nat} {cur : Tri} {st st' : Net} {e : Edge} (h : NetOk p s r st) (hp : Valid p) (hs : Valid s) (hr : Valid r) (hn : n < st.rows.length) (hc : cur ∈ st.rows) (he : e ∈ p.edges)
  (hst : edgeStep p s r ctl n cur st e = some st') : NetOk p s r st' ∧ st.rows.length ≤ st'.rows.length ∧ st'.edges.length ≤ st.edges.length + 1 := by
 unfold edgeStep at hst
 by_cases h1 : alongB s cur.y (labAt p e) = true
 ·rw [if_pos h1] at hst
  by_cases h2 : alongB r cur.z (labAt p e) = true
  ·rw [if_pos h2] at hst
   obtain ⟨i, hi, rfl⟩ := List.mem_iff_getElem.1 he
   have hin := h.inside cur hc
   have hd := hp.edge i hi
   have a1 := alongV_in hs hin.2.1.1 hin.2.1.2 h1
   have a2 := alongV_in hr hin.2.2.1 hin.2.2.2 h2
   have b1 := hd.d0
   have b2 := hd.d1
   generalize hq : (⟨p.edges[i].dst, alongV s cur.y (labAt p p.edges[i]), alongV r cur.z (labAt p p.edges[i])⟩ : Tri) = q at hst
   have hqi : (0 ≤ q.x ∧ q.x < p.states) ∧ (0 ≤ q.y ∧ q.y < s.states) ∧ (0 ≤ q.z ∧ q.z < r.states) := by subst hq; exact ⟨⟨b1, b2⟩, a1, a2⟩
   cases hst
   by_cases hm : q ∈ st.rows
   ·refine ⟨⟨?_, ?_, ?_, ?_⟩, ?_, by simp⟩ <;> simp only [addRow_old hm]
    ·exact h.pos
    ·exact h.nodup
    ·exact h.inside
    ·intro e' he'
     rw [List.mem_append, List.mem_singleton] at he'
     rcases he' with he' | rfl
     ·exact h.ends e' he'
     ·exact ⟨hn, place_lt.2 hm⟩
    ·exact Nat.le_refl _
   ·obtain ⟨k1, k2⟩ := addRow_new hm
    refine ⟨⟨?_, ?_, ?_, ?_⟩, ?_, by simp⟩ <;> simp only [k1, k2, List.length_append, List.length_singleton]
    ·omega
    ·rw [List.nodup_append]
     refine ⟨h.nodup, by simp, ?_⟩
     intro a ha b hb
     rw [List.mem_singleton] at hb
     subst hb
     exact fun e => hm (e ▸ ha)
    ·intro q' hq'
     rw [List.mem_append, List.mem_singleton] at hq'
     rcases hq' with hq' | rfl
     ·exact h.inside q' hq'
     ·exact hqi
    ·intro e' he'
     rw [List.mem_append, List.mem_singleton] at he'
     rcases he' with he' | rfl
     ·have := h.ends e' he'
      omega
     ·exact ⟨by simp only; omega, by simp⟩
    ·omega
  ·rw [if_neg h2] at hst
   cases hst
 ·rw [if_neg h1] at hst
  by_cases h2 : ctl (labAt p e) = true
  ·rw [if_pos h2] at hst
   cases hst
   exact ⟨h, Nat.le_refl _, by omega⟩
  ·rw [if_neg h2] at hst
   cases hst


/-! The search over triples, edge for edge: how far it has come, and what holds there. Plain laws. -/

section
variable {p s r : Lts} {ctl : ByteArray → Bool}

theorem edgesStep_append (n : Nat) (cur : Tri) : ∀ (a b : List Edge) (st : Net), edgesStep p s r ctl n cur (a ++ b) st = (edgesStep p s r ctl n cur a st).bind (edgesStep p s r ctl n cur b)
 | [], _, _ => rfl
 | e :: a, b, st => by
  rw [List.cons_append, edgesStep, edgesStep]
  cases h : edgeStep p s r ctl n cur st e with
  | none => rfl
  | some st1 => exact edgesStep_append n cur a b st1

/-- At the edge number j of the triple number n: the net st there. -/
structure Mid (p s r : Lts) (ctl : ByteArray → Bool) (n : Nat) (cur : Tri) (j : Nat) (st : Net) : Prop where
 ok : NetOk p s r st
 lt : n < st.rows.length
 here : st.rows[n]? = some cur
 few : st.edges.length ≤ n * 300 + j
 from0 : ∃ st0, Come p s r ctl n st0 ∧ n < st0.rows.length ∧ st0.rows[n]? = some cur ∧ edgesStep p s r ctl n cur ((outOf p cur.x).take j) st0 = some st

/-- Between two triples. -/
structure At (p s r : Lts) (ctl : ByteArray → Bool) (n : Nat) (st : Net) : Prop where
 ok : NetOk p s r st
 le : n ≤ st.rows.length
 few : st.edges.length ≤ n * 300
 come : Come p s r ctl n st

theorem At.zero (hp : Valid p) (hs : Valid s) (hr : Valid r) : At p s r ctl 0 ⟨[⟨p.initial, s.initial, r.initial⟩], []⟩ := ⟨NetOk.zero hp hs hr, by simp, by simp, Come.zero p s r ctl⟩
set_option maxRecDepth 100000 in
theorem At.mid {n : Nat} {st : Net} (h : At p s r ctl n st) (hn : n < st.rows.length) : Mid p s r ctl n st.rows[n] 0 st :=
 ⟨h.ok, hn, List.getElem?_eq_getElem hn, h.few, st, h.come, hn, List.getElem?_eq_getElem hn, rfl⟩

theorem edgeStep_rows {n : Nat} {cur : Tri} {st st' : Net} {e : Edge} (h : edgeStep p s r ctl n cur st e = some st') : ∀ i, i < st.rows.length → st'.rows[i]? = st.rows[i]? := by
 intro i hi
 unfold edgeStep at h
 split at h
 ·split at h
  ·cases h
   simp only
   unfold addRow
   split
   ·rfl
   ·rw [List.getElem?_append_left hi]
  ·cases h
 ·split at h
  ·cases h; rfl
  ·cases h

theorem Mid.next {n j : Nat} {cur : Tri} {st st' : Net} (h : Mid p s r ctl n cur j st) (hp : Valid p) (hs : Valid s) (hr : Valid r) (hj : j < (outOf p cur.x).length) (he : edgeStep p s r ctl n cur st (outOf p cur.x)[j] = some st') : Mid p s r ctl n cur (j + 1) st' := by
 obtain ⟨st0, h1, h2, h3, h4⟩ := h.from0
 have hm : (outOf p cur.x)[j] ∈ p.edges := (List.mem_filter.1 (List.getElem_mem hj)).1
 obtain ⟨k1, k2, k3⟩ := h.ok.edge hp hs hr h.lt (List.mem_of_getElem? h.here) hm he
 refine ⟨k1, by have := h.lt; omega, by rw [edgeStep_rows he n h.lt]; exact h.here, by have := h.few; omega, st0, h1, h2, h3, ?_⟩
 rw [List.take_succ_eq_append_getElem hj, edgesStep_append, h4]
 simp only [Option.bind_some, edgesStep, he]
theorem Mid.fail {n j : Nat} {cur : Tri} {st : Net} (h : Mid p s r ctl n cur j st) (hj : j < (outOf p cur.x).length) (he : edgeStep p s r ctl n cur st (outOf p cur.x)[j] = none) : FailAt p s r ctl n := by
 obtain ⟨st0, h1, h2, h3, h4⟩ := h.from0
 refine ⟨st0, h1, h2, ?_⟩
 unfold expand
 rw [h3]
 simp only
 have : outOf p cur.x = (outOf p cur.x).take j ++ (outOf p cur.x)[j] :: (outOf p cur.x).drop (j + 1) := by
  rw [← List.drop_eq_getElem_cons hj, List.take_append_drop]
 rw [this, edgesStep_append, h4]
 simp only [Option.bind_some, edgesStep, he, Option.bind_none]
theorem out_few (hp : Valid p) (k : Int) : (outOf p k).length ≤ 300 := Nat.le_trans (List.length_filter_le _ _) hp.most
theorem Mid.done {n : Nat} {cur : Tri} {st : Net} (h : Mid p s r ctl n cur (outOf p cur.x).length st) (hp : Valid p) : At p s r ctl (n + 1) st := by
 obtain ⟨st0, h1, h2, h3, h4⟩ := h.from0
 rw [List.take_length] at h4
 refine ⟨h.ok, h.lt, ?_, h1.succ h2 ?_⟩
 ·have := h.few
  have := out_few hp cur.x
  omega
 ·unfold expand
  rw [h3]
  exact h4
theorem At.found {n : Nat} {st : Net} (h : At p s r ctl n st) (hn : ¬ n < st.rows.length) : FoundAll p s r ctl st := ⟨n, h.come, by have := h.le; omega⟩
end


/-! How a plant lies in memory. -/

/-- A pointer to a plant: its system first, then its two slices. -/
def PlantPtr (lo : Nat) (w : World) (b : Nat) (p : Plant) : Prop :=
 ∃ mv nv, LtsPtr lo w b p.sys ∧ w.cell? ⟨b, 4, none⟩ = some mv ∧ w.cell? ⟨b, 5, none⟩ = some nv ∧ SliceK 1 encI lo w mv p.marks ∧ SliceK 1 encS lo w nv p.names

theorem PlantPtr.below {lo : Nat} {w w' : World} {b : Nat} {p : Plant} (h : PlantPtr lo w b p) (hb : Below w.heap.size w w') : PlantPtr lo w' b p := by
 obtain ⟨mv, nv, h1, h2, h3, h4, h5⟩ := h
 have h6 : b < w.heap.size := by obtain ⟨_, _, h, _⟩ := h1; exact h
 exact ⟨mv, nv, h1.below hb, keeps hb h6 h2, keeps hb h6 h3, h4.below hb, h5.below hb⟩

/-- The value of a plant (a struct of six cells). -/
def PlantAt (lo : Nat) (w : World) (v : Value) (p : Plant) : Prop :=
 ∃ lv ev mv nv, v = .agg #[.int .i64 p.sys.states, .int .i64 p.sys.initial, lv, ev, mv, nv] ∧ SliceK 1 encS lo w lv p.sys.labels ∧ SliceK 3 encE lo w ev p.sys.edges ∧ SliceK 1 encI lo w mv p.marks ∧ SliceK 1 encS lo w nv p.names

theorem PlantAt.below {lo : Nat} {w w' : World} {v : Value} {p : Plant} (h : PlantAt lo w v p) (hb : Below w.heap.size w w') : PlantAt lo w' v p := by
 obtain ⟨lv, ev, mv, nv, h1, h2, h3, h4, h5⟩ := h
 exact ⟨lv, ev, mv, nv, h1, h2.below hb, h3.below hb, h4.below hb, h5.below hb⟩

/-- A plant's slices. -/
structure PlantIn (lo : Nat) (w : World) (lv ev mv nv : Value) (p : Plant) : Prop where
 labels : SliceK 1 encS lo w lv p.sys.labels
 edges : SliceK 3 encE lo w ev p.sys.edges
 marks : SliceK 1 encI lo w mv p.marks
 names : SliceK 1 encS lo w nv p.names
theorem PlantIn.below {lo : Nat} {w w' : World} {lv ev mv nv : Value} {p : Plant} (h : PlantIn lo w lv ev mv nv p) (hb : Below w.heap.size w w') : PlantIn lo w' lv ev mv nv p := ⟨h.labels.below hb, h.edges.below hb, h.marks.below hb, h.names.below hb⟩
/-- A system's slices. -/
structure LtsIn (lo : Nat) (w : World) (lv ev : Value) (t : Lts) : Prop where
 labels : SliceK 1 encS lo w lv t.labels
 edges : SliceK 3 encE lo w ev t.edges
theorem LtsIn.below {lo : Nat} {w w' : World} {lv ev : Value} {t : Lts} (h : LtsIn lo w lv ev t) (hb : Below w.heap.size w w') : LtsIn lo w' lv ev t := ⟨h.labels.below hb, h.edges.below hb⟩
theorem LtsIn.ptr {lo : Nat} {w : World} {lv ev : Value} {t : Lts} {b : Nat} {ty : TypeId} (h : LtsIn lo w lv ev t) (hb : Blk w b [.int .i64 t.states, .int .i64 t.initial, lv, ev] ty) : LtsPtr lo w b t :=
 ⟨lv, ev, hb.lt, hb.cell 0 rfl, hb.cell 1 rfl, hb.cell 2 rfl, hb.cell 3 rfl, h.labels, h.edges⟩
theorem PlantIn.ptr {lo : Nat} {w : World} {lv ev mv nv : Value} {p : Plant} {b : Nat} {ty : TypeId} (h : PlantIn lo w lv ev mv nv p) (hb : Blk w b [.int .i64 p.sys.states, .int .i64 p.sys.initial, lv, ev, mv, nv] ty) : PlantPtr lo w b p :=
 ⟨mv, nv, ⟨lv, ev, hb.lt, hb.cell 0 rfl, hb.cell 1 rfl, hb.cell 2 rfl, hb.cell 3 rfl, h.labels, h.edges⟩, hb.cell 4 rfl, hb.cell 5 rfl, h.marks, h.names⟩

end Go.Proofs.YtpoleaekcjjedaaGreatDoor
