/-
  Plain laws: the order of texts; in a deterministic system at most one edge leaves a state with a label's text.
  A plant, a supervisor and a requirement: the triples of states that are reached, those from which a marked one is reached, what makes a plant valid, when a supervisor controls it; how a plant lies in memory. Plain laws; no program in sight.
  Sets of states as ascending lists; what internal edges reach; the deterministic system of a system, found row for row. Plain definitions; no program in sight.
  Lists in ascending order: one list for each set; what is left of a sorted list when equal neighbours are made one.
-/
import Derived.Test.YthofaoabgbgbdaaGreatDoorG3
import Derived.Lib.SlicesCompact
import Derived.Lib.RowBridge
namespace Go.Proofs.YthofaoabgbgbdaaGreatDoor
open Go Go.RowKit

theorem less_lt : ∀ (x y : List UInt8), Op.bytesLess x y = decide (x < y)
 | [], [] => by simp [Op.bytesLess]
 | _ :: _, [] => by simp [Op.bytesLess]
 | [], _ :: _ => by simp [Op.bytesLess]
 | a :: x, b :: y => by
  rw [Op.bytesLess, less_lt x y]
  simp only [List.cons_lt_cons_iff]
  by_cases h1 : a < b <;> by_cases h2 : a = b <;> by_cases h3 : x < y <;> simp [h1, h2, h3]

theorem less_trans {x y z : List UInt8} (h1 : Op.bytesLess x y = true) (h2 : Op.bytesLess y z = true) : Op.bytesLess x z = true := by
 rw [less_lt, decide_eq_true_eq] at *
 exact List.lt_trans h1 h2
theorem less_irrefl (x : List UInt8) : Op.bytesLess x x = false := by
 rw [less_lt, decide_eq_false_iff_not]
 exact List.lt_irrefl x
theorem less_leq (x y : List UInt8) : (Op.bytesLess x y || x == y) = !Op.bytesLess y x := by
 rw [less_lt, less_lt]
 by_cases h : y < x
 ·have h1 : ¬ x < y := fun h' => List.lt_irrefl x (List.lt_trans h' h)
  have h2 : x ≠ y := fun e => List.lt_irrefl x (by rw [e] at h ⊢; exact h)
  simp [h, h1, h2]
 ·by_cases h1 : x < y
  ·simp [h, h1]
  ·have e : x = y := List.le_antisymm (List.not_lt.1 h) (List.not_lt.1 h1)
   simp [e]

theorem labels_less {ls : List ByteArray} (h : LabelsOk ls) (i j : Nat) (hi : 1 ≤ i) (hij : i < j) (hj : j < ls.length) : strLess ls[i] ls[j] = true := by
 induction j with
 | zero => omega
 | succ j ih =>
  rcases Nat.lt_or_ge i j with hlt | hge
  ·exact less_trans (ih hlt (by omega)) (h.rise j hj (by omega))
  ·obtain rfl : i = j := by omega
   exact h.rise i hj hi
theorem labels_inj {ls : List ByteArray} (h : LabelsOk ls) (i j : Nat) (hi : i < ls.length) (hj : j < ls.length) (e : ls[i].toList = ls[j].toList) : i = j := by
 have key : ∀ i j (hi : i < ls.length) (hj : j < ls.length), ls[i].toList = ls[j].toList → ¬ i < j := by
  intro i j hi hj e hlt
  by_cases h0 : i = 0
  ·subst h0
   exact h.other j hj (by omega) (by rw [← e]; exact h.first hi)
  ·have := labels_less h i j (by omega) hlt hj
   unfold strLess at this
   rw [e, less_irrefl] at this
   cases this
 rcases Nat.lt_trichotomy i j with hlt | heq | hgt
 ·exact absurd hlt (key i j hi hj e)
 ·exact heq
 ·exact absurd hgt (key j i hj hi e.symm)

/-- Edges in order: by source, label, destination. -/
def keyLt (a b : Edge) : Prop := a.src < b.src ∨ (a.src = b.src ∧ (a.lab < b.lab ∨ (a.lab = b.lab ∧ a.dst < b.dst)))
theorem keyLt_of {a b : Edge} (h : edgeLess a b = true) : keyLt a b := by
 unfold edgeLess at h
 unfold keyLt
 by_cases h1 : a.src = b.src
 ·by_cases h2 : a.lab = b.lab
  ·simp [h1, h2] at h; omega
  ·simp [h1, h2] at h; omega
 ·simp [h1] at h; omega
theorem keyLt_trans {a b c : Edge} (h1 : keyLt a b) (h2 : keyLt b c) : keyLt a c := by unfold keyLt at *; omega
theorem edges_less {t : Lts} (hv : Valid t) (i j : Nat) (hij : i < j) (hj : j < t.edges.length) : keyLt t.edges[i] t.edges[j] := by
 induction j with
 | zero => omega
 | succ j ih =>
  rcases Nat.lt_or_ge i j with hlt | hge
  ·exact keyLt_trans (ih hlt (by omega)) (keyLt_of (hv.rise j hj))
  ·obtain rfl : i = j := by omega
   exact keyLt_of (hv.rise i hj)

theorem filter_one {α : Type} {f : α → Bool} : ∀ {l : List α}, (∀ i j (hi : i < l.length) (hj : j < l.length), i < j → ¬ (f l[i] = true ∧ f l[j] = true)) → (l.filter f).length ≤ 1
 | [], _ => by simp
 | x :: r, h => by
  rw [List.filter_cons]
  cases hx : f x with
  | true =>
   rw [if_pos rfl]
   have : r.filter f = [] := by
    rw [List.filter_eq_nil_iff]
    intro y hy
    obtain ⟨j, hj, rfl⟩ := List.mem_iff_getElem.1 hy
    intro hf
    exact h 0 (j + 1) (by simp) (by simpa using hj) (by omega) ⟨hx, by simpa using hf⟩
   rw [this]; simp
  | false =>
   rw [if_neg (by simp)]
   exact filter_one fun i j hi hj hij => by
    have := h (i + 1) (j + 1) (by simpa using hi) (by simpa using hj) (by omega)
    simpa using this

theorem labAt_idx {t : Lts} {e : Edge} (h : EdgeOk t e) : ∃ hlt : e.lab.toNat < t.labels.length, labAt t e = t.labels[e.lab.toNat] := by
 have h0 := h.l0
 have h1 := h.l1
 have hlt : e.lab.toNat < t.labels.length := by omega
 exact ⟨hlt, by unfold labAt; rw [List.getD_eq_getElem?_getD, List.getElem?_eq_getElem hlt]; rfl⟩

set_option maxRecDepth 100000 in
theorem hits_one {p : Lts} (hv : Valid p) (hs : Single p) (q : Int) (l : ByteArray) : (p.edges.filter (hitB p q l)).length ≤ 1 := by
 refine filter_one fun i j hi hj hij ⟨h1, h2⟩ => ?_
 unfold hitB at h1 h2
 simp only [Bool.and_eq_true, beq_iff_eq] at h1 h2
 obtain ⟨hl1, e1⟩ := labAt_idx (hv.edge i hi)
 obtain ⟨hl2, e2⟩ := labAt_idx (hv.edge j hj)
 rw [e1] at h1
 rw [e2] at h2
 have hlab : p.edges[i].lab = p.edges[j].lab := by
  have h3 := labels_inj hv.labels _ _ hl1 hl2 (h1.2.trans h2.2.symm)
  have h4 := (hv.edge i hi).l0
  have h5 := (hv.edge j hj).l0
  omega
 have ha : p.edges[i + 1].src = p.edges[i].src ∧ p.edges[i + 1].lab = p.edges[i].lab := by
  have k1 := edges_less hv i (i + 1) (by omega) (by omega)
  by_cases e : i + 1 = j
  ·have e' : p.edges[i + 1] = p.edges[j] := by congr
   rw [e']
   exact ⟨h2.1.trans h1.1.symm, hlab.symm⟩
  ·have k2 := edges_less hv (i + 1) j (by omega) hj
   unfold keyLt at k1 k2
   omega
 exact hs.one i (by omega) ha

/-- The states behind the edges that a label's text takes. -/
def behind (p : Lts) (q : Int) (l : ByteArray) : List Int := (p.edges.filter (hitB p q l)).map Edge.dst
theorem behind_one {p : Lts} (hv : Valid p) (hs : Single p) (q : Int) (l : ByteArray) : (behind p q l).length ≤ 1 := by
 unfold behind; rw [List.length_map]; exact hits_one hv hs q l
theorem find_filter {α : Type} (f : α → Bool) : ∀ l : List α, l.find? f = (l.filter f).head?
 | [] => rfl
 | x :: r => by
  rw [List.find?_cons, List.filter_cons]
  cases f x with
  | true => rfl
  | false => rw [if_neg (by simp)]; exact find_filter f r
theorem goTo_behind {p : Lts} {q : Int} (h : 0 ≤ q) (l : ByteArray) : goTo p q l = (behind p q l).head?.getD (-1) := by
 unfold goTo behind
 rw [if_neg (by omega), find_filter, List.head?_map]

theorem find_at {α : Type} {p : α → Bool} {l : List α} {k : Nat} (hk : k < l.length) (h1 : ∀ j (h : j < l.length), j < k → p l[j] = false) (h2 : p l[k] = true) : l.find? p = some l[k] := by
 rw [List.find?_eq_some_iff_getElem]
 exact ⟨h2, k, hk, rfl, fun j hj => by simp [h1 j (by omega) hj]⟩
theorem find_none {α : Type} {p : α → Bool} {l : List α} (h1 : ∀ j (h : j < l.length), p l[j] = false) : l.find? p = none := by
 rw [List.find?_eq_none]
 intro x hx
 obtain ⟨j, hj, rfl⟩ := List.mem_iff_getElem.1 hx
 simp [h1 j hj]
end Go.Proofs.YthofaoabgbgbdaaGreatDoor

namespace Go.Proofs.YthofaoabgbgbdaaGreatDoor
open Go Go.RowKit

/-- From a row edges lead to a marked one. -/
inductive Co (edges : List (Nat × Nat)) (mk : Nat → Bool) : Nat → Prop
 | here {i : Nat} (h : mk i = true) : Co edges mk i
 | step {a b : Nat} (h : (a, b) ∈ edges) (hb : Co edges mk b) : Co edges mk a

theorem Co.closed {edges : List (Nat × Nat)} {mk : Nat → Bool} {good : Nat → Prop} (h1 : ∀ i, mk i = true → good i) (h2 : ∀ a b, (a, b) ∈ edges → good b → good a) {i : Nat} (h : Co edges mk i) : good i := by
 induction h with
 | here h => exact h1 _ h
 | step h _ ih => exact h2 _ _ h ih

/-- Numbers below n, no two the same: at most n. -/
theorem nodup_lt : ∀ (n : Nat) (l : List Nat), l.Nodup → (∀ x ∈ l, x < n) → l.length ≤ n
 | 0, l, _, h => by
  cases l with
  | nil => simp
  | cons a r => exact absurd (h a (by simp)) (by omega)
 | n + 1, l, hd, h => by
  have h1 := nodup_lt n (l.filter fun x => x != n) (hd.filter _) (fun x hx => by
   rw [List.mem_filter] at hx
   have := h x hx.1
   have h2 : x ≠ n := by simpa using hx.2
   omega)
  have h2 : l.length ≤ (l.filter fun x => x != n).length + 1 := by
   clear h1 h
   induction l with
   | nil => simp
   | cons a r ih =>
    rw [List.nodup_cons] at hd
    by_cases e : a = n
    ·subst e
     have : r.filter (fun x => x != a) = r := by
      rw [List.filter_eq_self]
      intro x hx
      have : x ≠ a := fun e => hd.1 (e ▸ hx)
      simpa using this
     simp [this]
    ·have := ih hd.2
     simp [e]
     omega
  omega

/-! From which rows edges lead to a marked one: by sweeps over the edges, and by a queue. Plain laws. -/

def falses (l : List Bool) : Nat := l.countP (fun b => !b)
theorem falses_le (l : List Bool) : falses l ≤ l.length := List.countP_le_length
theorem falses_set : ∀ {l : List Bool} {i : Nat}, l[i]? = some false → falses (l.set i true) + 1 = falses l
 | [], i, h => by simp at h
 | b :: l, 0, h => by
  simp only [List.getElem?_cons_zero, Option.some.injEq] at h
  subst h
  simp [falses]
 | b :: l, i + 1, h => by
  simp only [List.getElem?_cons_succ] at h
  have := falses_set h
  unfold falses at *
  rw [List.set_cons_succ, List.countP_cons, List.countP_cons]
  omega

/-- The rows known so far are right, and the marked ones are known. -/
structure CoOk (edges : List (Nat × Nat)) (mk : Nat → Bool) (good : List Bool) : Prop where
 sound : ∀ i, good[i]? = some true → Co edges mk i
 marked : ∀ i, mk i = true → good[i]? = some true

def CoDone (edges : List (Nat × Nat)) (good : List Bool) : Prop := ∀ a b, (a, b) ∈ edges → good[b]? = some true → good[a]? = some true

theorem CoOk.iff {edges : List (Nat × Nat)} {mk : Nat → Bool} {good : List Bool} (h : CoOk edges mk good) (hd : CoDone edges good) (i : Nat) : good[i]? = some true ↔ Co edges mk i :=
 ⟨h.sound i, fun hc => hc.closed (good := fun i => good[i]? = some true) h.marked hd⟩

theorem set_true_get {good : List Bool} {a i : Nat} (ha : a < good.length) : (good.set a true)[i]? = some true ↔ i = a ∨ good[i]? = some true := by
 by_cases e : i = a
 ·subst e
  rw [List.getElem?_set_self ha]
  simp
 ·rw [List.getElem?_set_ne (Ne.symm e)]
  simp [e]

theorem CoOk.set {edges : List (Nat × Nat)} {mk : Nat → Bool} {good : List Bool} (h : CoOk edges mk good) {a b : Nat} (he : (a, b) ∈ edges) (hb : good[b]? = some true) (ha : a < good.length) : CoOk edges mk (good.set a true) where
 sound i hi := by
  rcases (set_true_get ha).1 hi with rfl | hi
  ·exact .step he (h.sound b hb)
  ·exact h.sound i hi
 marked i hi := (set_true_get ha).2 (.inr (h.marked i hi))

/-- One sweep over the edges, up to the edge number k. -/
structure Sweep (edges : List (Nat × Nat)) (mk : Nat → Bool) (good0 good : List Bool) (k : Nat) (more : Bool) : Prop where
 ok : CoOk edges mk good
 len : good.length = good0.length
 le : falses good ≤ falses good0
 no : more = false → good = good0 ∧ ∀ i (h : i < edges.length), i < k → good[edges[i].2]? = some true → good[edges[i].1]? = some true
 yes : more = true → falses good < falses good0

theorem Sweep.start {edges : List (Nat × Nat)} {mk : Nat → Bool} {good : List Bool} (h : CoOk edges mk good) : Sweep edges mk good good 0 false :=
 ⟨h, rfl, Nat.le_refl _, fun _ => ⟨rfl, fun _ _ h => absurd h (by omega)⟩, fun h => by cases h⟩
theorem Sweep.turn {edges : List (Nat × Nat)} {mk : Nat → Bool} {good0 good : List Bool} {k : Nat} {more : Bool} (h : Sweep edges mk good0 good k more) (hk : k < edges.length) (h2 : good[edges[k].2]? = some true) (h1 : good[edges[k].1]? = some false) :
  Sweep edges mk good0 (good.set edges[k].1 true) (k + 1) true where
 ok := h.ok.set (a := edges[k].1) (b := edges[k].2) (by exact List.getElem_mem hk) h2 (List.getElem?_eq_some_iff.1 h1).1
 len := by rw [List.length_set]; exact h.len
 le := by have := falses_set h1; have := h.le; omega
 no := fun e => by cases e
 yes := fun _ => by have := falses_set h1; have := h.le; omega
theorem Sweep.skip {edges : List (Nat × Nat)} {mk : Nat → Bool} {good0 good : List Bool} {k : Nat} {more : Bool} (h : Sweep edges mk good0 good k more) (hk : k < edges.length) (h1 : good[edges[k].2]? = some true → good[edges[k].1]? = some true) :
  Sweep edges mk good0 good (k + 1) more where
 ok := h.ok
 len := h.len
 le := h.le
 no := fun e => ⟨(h.no e).1, fun i hi hlt => by
  by_cases e1 : i = k
  ·subst e1; exact h1
  ·exact (h.no e).2 i hi (by omega)⟩
 yes := h.yes
theorem Sweep.done {edges : List (Nat × Nat)} {mk : Nat → Bool} {good0 good : List Bool} (h : Sweep edges mk good0 good edges.length false) : CoDone edges good := by
 intro a b hm hb
 obtain ⟨i, hi, e⟩ := List.mem_iff_getElem.1 hm
 have := (h.no rfl).2 i hi hi
 rw [e] at this
 exact this hb

/-! The search over triples, edge for edge: how far it has come, and what holds there. Plain laws. -/

section
variable {p s r : Lts} {ctl : ByteArray → Bool}

end


/-- A system's slices. -/
structure LtsIn (lo : Nat) (w : World) (lv ev : Value) (t : Lts) : Prop where
 labels : SliceK 1 encS lo w lv t.labels
 edges : SliceK 3 encE lo w ev t.edges
theorem LtsIn.below {lo : Nat} {w w' : World} {lv ev : Value} {t : Lts} (h : LtsIn lo w lv ev t) (hb : Below w.heap.size w w') : LtsIn lo w' lv ev t := ⟨h.labels.below hb, h.edges.below hb⟩
theorem LtsIn.ptr {lo : Nat} {w : World} {lv ev : Value} {t : Lts} {b : Nat} {ty : TypeId} (h : LtsIn lo w lv ev t) (hb : Blk w b [.int .i64 t.states, .int .i64 t.initial, lv, ev] ty) : LtsPtr lo w b t :=
 ⟨lv, ev, hb.lt, hb.cell 0 rfl, hb.cell 1 rfl, hb.cell 2 rfl, hb.cell 3 rfl, h.labels, h.edges⟩
end Go.Proofs.YthofaoabgbgbdaaGreatDoor

namespace Go.Proofs.YthofaoabgbgbdaaGreatDoor
open Go Go.RowKit

/-- A list that has just the members P, ascending. -/
structure IsSet (P : Int → Prop) (l : List Int) : Prop where
 mem : ∀ x, x ∈ l ↔ P x
 asc : l.Pairwise (· < ·)

theorem asc_unique : ∀ (l m : List Int), l.Pairwise (· < ·) → m.Pairwise (· < ·) → (∀ x, x ∈ l ↔ x ∈ m) → l = m
 | [], [], _, _, _ => rfl
 | [], b :: m, _, _, h => by have := (h b).2 (by simp); simp at this
 | a :: l, [], _, _, h => by have := (h a).1 (by simp); simp at this
 | a :: l, b :: m, hl, hm, h => by
  rw [List.pairwise_cons] at hl hm
  have e : a = b := by
   have h1 := (h a).1 (by simp)
   have h2 := (h b).2 (by simp)
   rw [List.mem_cons] at h1 h2
   rcases h1 with h1 | h1
   ·exact h1
   ·rcases h2 with h2 | h2
    ·exact h2.symm
    ·have := hm.1 a h1
     have := hl.1 b h2
     omega
  subst e
  rw [asc_unique l m hl.2 hm.2 fun x => ?_]
  constructor
  ·intro hx
   have h1 := (h x).1 (by simp [hx])
   rw [List.mem_cons] at h1
   rcases h1 with h1 | h1
   ·have := hl.1 x hx; omega
   ·exact h1
  ·intro hx
   have h1 := (h x).2 (by simp [hx])
   rw [List.mem_cons] at h1
   rcases h1 with h1 | h1
   ·have := hm.1 x hx; omega
   ·exact h1
theorem IsSet.unique {P : Int → Prop} {l m : List Int} (hl : IsSet P l) (hm : IsSet P m) : l = m :=
 asc_unique l m hl.asc hm.asc fun x => (hl.mem x).trans (hm.mem x).symm
theorem IsSet.congr {P Q : Int → Prop} {l : List Int} (hl : IsSet P l) (h : ∀ x, P x ↔ Q x) : IsSet Q l := ⟨fun x => (hl.mem x).trans (h x), hl.asc⟩

noncomputable section
/-- The numbers below n with P, ascending. -/
def setL (n : Int) (P : Int → Prop) : List Int := ((List.range n.toNat).map fun (i : Nat) => (i : Int)).filter fun x => @decide (P x) (Classical.propDecidable _)
theorem setL_is {n : Int} {P : Int → Prop} (h : ∀ x, P x → 0 ≤ x ∧ x < n) : IsSet P (setL n P) where
 mem x := by
  unfold setL
  rw [List.mem_filter, List.mem_map]
  constructor
  ·intro hx
   exact @of_decide_eq_true _ (Classical.propDecidable _) hx.2
  ·intro hx
   have := h x hx
   exact ⟨⟨x.toNat, List.mem_range.2 (by omega), by omega⟩, @decide_eq_true _ (Classical.propDecidable _) hx⟩
 asc := by
  unfold setL
  refine List.Pairwise.filter _ ?_
  rw [List.pairwise_map]
  exact List.Pairwise.imp (fun h => by omega) List.pairwise_lt_range
end

/-- Internal edges lead from a to b. -/
inductive TauStar (t : Lts) (a : Int) : Int → Prop
 | refl : TauStar t a a
 | step {b : Int} (h : TauStar t a b) (e : Edge) (he : e ∈ t.edges) (hl : e.lab = 0) (hs : e.src = b) : TauStar t a e.dst
/-- What internal edges reach from S. -/
def clos (t : Lts) (S : Int → Prop) (x : Int) : Prop := ∃ a, S a ∧ TauStar t a x
theorem clos.base {t : Lts} {S : Int → Prop} {x : Int} (h : S x) : clos t S x := ⟨x, h, .refl⟩
theorem clos.next {t : Lts} {S : Int → Prop} {e : Edge} (h : clos t S e.src) (he : e ∈ t.edges) (hl : e.lab = 0) : clos t S e.dst := by
 obtain ⟨a, ha, hs⟩ := h
 exact ⟨a, ha, .step hs e he hl rfl⟩
theorem clos.least {t : Lts} {S Q : Int → Prop} (h1 : ∀ x, S x → Q x) (h2 : ∀ e ∈ t.edges, e.lab = 0 → Q e.src → Q e.dst) {x : Int} (h : clos t S x) : Q x := by
 obtain ⟨a, ha, hs⟩ := h
 induction hs with
 | refl => exact h1 a ha
 | step _ e he hl hs ih => exact h2 e he hl (hs ▸ ih)
theorem clos.inside {t : Lts} (hv : Valid t) {S : Int → Prop} (h : ∀ x, S x → 0 ≤ x ∧ x < t.states) (x : Int) (hx : clos t S x) : 0 ≤ x ∧ x < t.states :=
 hx.least (Q := fun x => 0 ≤ x ∧ x < t.states) h fun e he _ _ => by
  obtain ⟨i, hi, rfl⟩ := List.mem_iff_getElem.1 he
  have := hv.edge i hi
  exact ⟨this.d0, this.d1⟩

/-- Behind a label's number k, from the states in l. -/
def behindP (t : Lts) (l : List Int) (k : Int) (x : Int) : Prop := ∃ e ∈ t.edges, e.lab = k ∧ e.src ∈ l ∧ e.dst = x
theorem behindP_in {t : Lts} (hv : Valid t) {l : List Int} {k x : Int} (h : behindP t l k x) : 0 ≤ x ∧ x < t.states := by
 obtain ⟨e, he, -, -, rfl⟩ := h
 obtain ⟨i, hi, rfl⟩ := List.mem_iff_getElem.1 he
 exact ⟨(hv.edge i hi).d0, (hv.edge i hi).d1⟩
def firstP (t : Lts) : Int → Prop := clos t fun x => x = t.initial
def nextP (t : Lts) (l : List Int) (k : Int) : Int → Prop := clos t (behindP t l k)

noncomputable section
def firstS (t : Lts) : List Int := setL t.states (firstP t)
def nextS (t : Lts) (l : List Int) (k : Int) : List Int := setL t.states (nextP t l k)
theorem firstS_is {t : Lts} (hv : Valid t) : IsSet (firstP t) (firstS t) := setL_is (clos.inside hv fun x hx => by subst hx; exact ⟨hv.in0, hv.in1⟩)
theorem nextS_is {t : Lts} (hv : Valid t) (l : List Int) (k : Int) : IsSet (nextP t l k) (nextS t l k) := setL_is (clos.inside hv fun _ hx => behindP_in hv hx)

structure DNet where
 rows : List (List Int)
 edges : List Edge

def dplace (rows : List (List Int)) (r : List Int) : Nat := rows.findIdx fun q => q == r
def dadd (rows : List (List Int)) (r : List Int) : List (List Int) := if dplace rows r < rows.length then rows else rows ++ [r]
/-- One label (its number k) of the row number i. -/
def dstep (t : Lts) (i : Nat) (cur : List Int) (st : DNet) (k : Nat) : DNet :=
 if nextS t cur (k + 1) = [] then st else ⟨dadd st.rows (nextS t cur (k + 1)), st.edges ++ [⟨(i : Int), (k : Int) + 1, (dplace st.rows (nextS t cur (k + 1)) : Int)⟩]⟩
/-- The first j labels behind tau. -/
def dmid (t : Lts) (i : Nat) (cur : List Int) (st : DNet) (j : Nat) : DNet := (List.range j).foldl (dstep t i cur) st
def drow (t : Lts) (i : Nat) (st : DNet) : DNet :=
 match st.rows[i]? with
 | none => st
 | some cur => dmid t i cur st (t.labels.length - 1)
def dAt (t : Lts) : Nat → DNet
 | 0 => ⟨[firstS t], []⟩
 | n + 1 => drow t n (dAt t n)
end

def DCome (t : Lts) (n : Nat) : Prop := ∀ k, k < n → k < (dAt t k).rows.length
def DFound (t : Lts) (st : DNet) : Prop := ∃ n, DCome t n ∧ dAt t n = st ∧ st.rows.length = n
def DSmall (st : DNet) : Prop := st.rows.length ≤ 40 ∧ st.edges.length ≤ 300
def DOk (t : Lts) (st : DNet) : Prop := DFound t st ∧ DSmall st
/-- Somewhere on the way the net is too large. -/
def DFull (t : Lts) : Prop := ∃ n j cur, DCome t n ∧ (dAt t n).rows[n]? = some cur ∧ j ≤ t.labels.length - 1 ∧ ¬ DSmall (dmid t n cur (dAt t n) j)

/-- A net within another one. -/
structure DLe (a b : DNet) : Prop where
 rows : ∃ r, b.rows = a.rows ++ r
 edges : ∃ r, b.edges = a.edges ++ r
theorem DLe.refl (a : DNet) : DLe a a := ⟨⟨[], by simp⟩, ⟨[], by simp⟩⟩
theorem DLe.trans {a b c : DNet} (h : DLe a b) (k : DLe b c) : DLe a c := by
 obtain ⟨⟨r, h1⟩, ⟨s, h2⟩⟩ := h
 obtain ⟨⟨u, h3⟩, ⟨v, h4⟩⟩ := k
 exact ⟨⟨r ++ u, by rw [h3, h1, List.append_assoc]⟩, ⟨s ++ v, by rw [h4, h2, List.append_assoc]⟩⟩
theorem DLe.small {a b : DNet} (h : DLe a b) (hb : DSmall b) : DSmall a := by
 obtain ⟨⟨r, h1⟩, ⟨s, h2⟩⟩ := h
 unfold DSmall at *
 rw [h1, h2, List.length_append, List.length_append] at hb
 omega
theorem dstep_le (t : Lts) (i : Nat) (cur : List Int) (st : DNet) (k : Nat) : DLe st (dstep t i cur st k) := by
 unfold dstep
 split
 ·exact DLe.refl st
 ·refine ⟨?_, ⟨_, rfl⟩⟩
  unfold dadd
  split
  ·exact ⟨[], by simp⟩
  ·exact ⟨_, rfl⟩
theorem dmid_succ (t : Lts) (i : Nat) (cur : List Int) (st : DNet) (j : Nat) : dmid t i cur st (j + 1) = dstep t i cur (dmid t i cur st j) j := by
 unfold dmid
 rw [List.range_succ, List.foldl_append]
 rfl
theorem dmid_le (t : Lts) (i : Nat) (cur : List Int) (st : DNet) (j : Nat) : ∀ d, DLe (dmid t i cur st j) (dmid t i cur st (j + d))
 | 0 => DLe.refl _
 | d + 1 => by
  rw [← Nat.add_assoc, dmid_succ]
  exact (dmid_le t i cur st j d).trans (dstep_le t i cur _ _)
theorem drow_le (t : Lts) (i : Nat) (st : DNet) : DLe st (drow t i st) := by
 unfold drow
 split
 ·exact DLe.refl st
 ·next cur _ =>
  have := dmid_le t i cur st 0 (t.labels.length - 1)
  rw [Nat.zero_add] at this
  exact this
theorem dAt_le (t : Lts) (n : Nat) : ∀ d, DLe (dAt t n) (dAt t (n + d))
 | 0 => DLe.refl _
 | d + 1 => by
  rw [← Nat.add_assoc]
  exact (dAt_le t n d).trans (drow_le t _ _)

theorem DFound.unique {t : Lts} {a b : DNet} (ha : DFound t a) (hb : DFound t b) : a = b := by
 obtain ⟨m, hm, em, lm⟩ := ha
 obtain ⟨n, hn, en, ln⟩ := hb
 rcases Nat.lt_trichotomy m n with h | h | h
 ·have := hn m h
  rw [em] at this
  omega
 ·subst h
  exact em.symm.trans en
 ·have := hm n h
  rw [en] at this
  omega
theorem DOk.not_full {t : Lts} {st : DNet} (h : DOk t st) : ¬ DFull t := by
 rintro ⟨n, j, cur, hc, hcur, hj, hs⟩
 obtain ⟨⟨m, hm, em, lm⟩, hsm⟩ := h
 have hn := (List.getElem?_eq_some_iff.1 hcur).1
 rcases Nat.lt_or_ge n m with hlt | hge
 ·refine hs (DLe.small ?_ hsm)
  have h1 := dmid_le t n cur (dAt t n) j (t.labels.length - 1 - j)
  rw [show j + (t.labels.length - 1 - j) = t.labels.length - 1 from by omega] at h1
  have h2 : dmid t n cur (dAt t n) (t.labels.length - 1) = dAt t (n + 1) := by
   rw [dAt]
   unfold drow
   rw [hcur]
  rw [h2] at h1
  have h3 := dAt_le t (n + 1) (m - (n + 1))
  rw [show n + 1 + (m - (n + 1)) = m from by omega, em] at h3
  exact h1.trans h3
 ·rcases Nat.lt_or_ge m n with h2 | h2
  ·have := hc m h2
   rw [em] at this
   omega
  ·obtain rfl : n = m := by omega
   rw [em] at hn
   omega

/-- Up to the row number n, all small: the search goes on, or it has found all, or it is too large. -/
theorem DCome.succ {t : Lts} {n : Nat} (h : DCome t n) (hn : n < (dAt t n).rows.length) : DCome t (n + 1) := by
 intro k hk
 by_cases e : k = n
 ·subst e; exact hn
 ·exact h k (by omega)
theorem DCome.zero (t : Lts) : DCome t 0 := fun k h => by omega

theorem dplace_lt {rows : List (List Int)} {q : List Int} : dplace rows q < rows.length ↔ q ∈ rows := by
 unfold dplace
 rw [List.findIdx_lt_length]
 simp
theorem dplace_get {rows : List (List Int)} {q : List Int} (h : dplace rows q < rows.length) : rows[dplace rows q] = q := by
 have := List.findIdx_getElem (p := fun q' => q' == q) (xs := rows) (w := h)
 exact eq_of_beq this
theorem dplace_le (rows : List (List Int)) (q : List Int) : dplace rows q ≤ rows.length := by unfold dplace; exact List.findIdx_le_length

/-! ### sweeps over the internal edges -/
/-- An internal edge as a pair (where it leads, where it begins); another edge says nothing. -/
def tauPair (e : Edge) : Nat × Nat := if e.lab = 0 then (e.dst.toNat, e.src.toNat) else (0, 0)
def tauPairs (t : Lts) : List (Nat × Nat) := t.edges.map tauPair
def markB (l : List Bool) (i : Nat) : Bool := l.getD i false
/-- The true places of a list of truth values. -/
def inL (l : List Bool) (x : Int) : Prop := 0 ≤ x ∧ l[x.toNat]? = some true

theorem co_clos {t : Lts} (hv : Valid t) {l : List Bool} {i : Nat} (h : Co (tauPairs t) (markB l) i) : clos t (inL l) (i : Int) := by
 induction h with
 | @here i h =>
  refine clos.base ⟨by omega, ?_⟩
  unfold markB at h
  rw [List.getD_eq_getElem?_getD] at h
  rw [Int.toNat_natCast]
  cases h2 : l[i]? with
  | none => rw [h2] at h; cases h
  | some b => rw [h2] at h; simp only [Option.getD_some] at h; rw [h]
 | @step a b he _ ih =>
  obtain ⟨e, hm, hp⟩ := List.mem_map.1 he
  unfold tauPair at hp
  split at hp
  ·next hl =>
   obtain ⟨j, hj, rfl⟩ := List.mem_iff_getElem.1 hm
   have hok := hv.edge j hj
   simp only [Prod.mk.injEq] at hp
   have h1 : ((a : Nat) : Int) = t.edges[j].dst := by have := hok.d0; omega
   have h2 : ((b : Nat) : Int) = t.edges[j].src := by have := hok.s0; omega
   rw [h1]
   rw [h2] at ih
   exact ih.next hm hl
  ·simp only [Prod.mk.injEq] at hp
   obtain ⟨rfl, rfl⟩ := hp
   exact ih
theorem clos_co {t : Lts} (hv : Valid t) {l : List Bool} {x : Int} (h : clos t (inL l) x) : 0 ≤ x ∧ Co (tauPairs t) (markB l) x.toNat := by
 refine h.least (Q := fun x => 0 ≤ x ∧ Co (tauPairs t) (markB l) x.toNat) ?_ ?_
 ·rintro y ⟨h0, h1⟩
  refine ⟨h0, .here ?_⟩
  unfold markB
  rw [List.getD_eq_getElem?_getD, h1]
  rfl
 ·intro e he hl ⟨_, h2⟩
  obtain ⟨j, hj, rfl⟩ := List.mem_iff_getElem.1 he
  refine ⟨(hv.edge j hj).d0, .step (b := t.edges[j].src.toNat) ?_ h2⟩
  refine List.mem_map.2 ⟨_, he, ?_⟩
  unfold tauPair
  rw [if_pos hl]
/-- At rest, the true places are what internal edges reach. -/
theorem rest_clos {t : Lts} (hv : Valid t) {l good : List Bool} (hc : CoOk (tauPairs t) (markB l) good) (hd : CoDone (tauPairs t) good) (x : Int) : inL good x ↔ clos t (inL l) x := by
 constructor
 ·rintro ⟨h0, h1⟩
  have := co_clos hv ((hc.iff hd x.toNat).1 h1)
  rw [Int.toNat_of_nonneg h0] at this
  exact this
 ·intro h
  obtain ⟨h0, h1⟩ := clos_co hv h
  exact ⟨h0, (hc.iff hd x.toNat).2 h1⟩
theorem markB_ok (t : Lts) (l : List Bool) : CoOk (tauPairs t) (markB l) l where
 sound i hi := .here (by unfold markB; rw [List.getD_eq_getElem?_getD, hi]; rfl)
 marked i hi := by
  unfold markB at hi
  rw [List.getD_eq_getElem?_getD] at hi
  cases h2 : l[i]? with
  | none => rw [h2] at hi; cases hi
  | some b => rw [h2] at hi; simp only [Option.getD_some] at hi; rw [hi]

end Go.Proofs.YthofaoabgbgbdaaGreatDoor

namespace Go.Proofs.YthofaoabgbgbdaaGreatDoor
open Go Go.RowKit

theorem compact_upto {α : Type} [Inhabited α] [DecidableEq α] (lt : α → α → Prop) (ht : ∀ a b c, lt a b → lt b c → lt a c) (d : Array α) (hs : ∀ i j, i < j → j < d.size → d[i]! = d[j]! ∨ lt d[i]! d[j]!) :
  ∀ m, m ≤ d.size → (Lib.compactUpTo d m).Pairwise lt ∧ ∀ x, x ∈ Lib.compactUpTo d m ↔ ∃ j, j < m ∧ d[j]! = x
 | 0, _ => ⟨by simp [Lib.compactUpTo], fun x => by simp [Lib.compactUpTo]⟩
 | m + 1, hm => by
  obtain ⟨h1, h2⟩ := compact_upto lt ht d hs m (by omega)
  rw [Lib.compactUpTo_succ]
  by_cases hk : Lib.keeps d m = true
  ·rw [if_pos hk]
   refine ⟨?_, fun x => ?_⟩
   ·rw [List.pairwise_append]
    refine ⟨h1, by simp, fun a ha b hb => ?_⟩
    rw [List.mem_singleton] at hb
    subst hb
    obtain ⟨j, hj, rfl⟩ := (h2 a).1 ha
    unfold Lib.keeps at hk
    rw [decide_eq_true_eq] at hk
    rcases hk with hk | hk
    ·omega
    ·have hl : lt d[m - 1]! d[m]! := by
      rcases hs (m - 1) m (by omega) (by omega) with e | e
      ·exact absurd e.symm hk
      ·exact e
     by_cases hjm : j = m - 1
     ·rw [hjm]; exact hl
     ·rcases hs j (m - 1) (by omega) (by omega) with e | e
      ·rw [e]; exact hl
      ·exact ht _ _ _ e hl
   ·rw [List.mem_append, h2, List.mem_singleton]
    constructor
    ·rintro (⟨j, hj, e⟩ | e)
     ·exact ⟨j, by omega, e⟩
     ·exact ⟨m, by omega, e.symm⟩
    ·rintro ⟨j, hj, e⟩
     by_cases hjm : j = m
     ·subst hjm; exact .inr e.symm
     ·exact .inl ⟨j, by omega, e⟩
  ·rw [if_neg hk, List.append_nil]
   refine ⟨h1, fun x => ?_⟩
   rw [h2]
   have hk' : m ≠ 0 ∧ d[m]! = d[m - 1]! := by
    unfold Lib.keeps at hk
    rw [decide_eq_true_eq, not_or, Classical.not_not] at hk
    exact hk
   constructor
   ·rintro ⟨j, hj, e⟩
    exact ⟨j, by omega, e⟩
   ·rintro ⟨j, hj, e⟩
    by_cases hjm : j = m
    ·subst hjm
     exact ⟨j - 1, by omega, by rw [← hk'.2]; exact e⟩
    ·exact ⟨j, by omega, e⟩
theorem compact_is {α : Type} [Inhabited α] [DecidableEq α] (lt : α → α → Prop) (ht : ∀ a b c, lt a b → lt b c → lt a c) (zs : List α) (hs : zs.Pairwise fun a b => a = b ∨ lt a b) :
  (Lib.compact zs).Pairwise lt ∧ ∀ x, x ∈ Lib.compact zs ↔ x ∈ zs := by
 have hp := List.pairwise_iff_getElem.1 hs
 have hg : ∀ i (h : i < zs.length), zs.toArray[i]! = zs[i] := fun i h => by
  rw [getElem!_pos zs.toArray i (by simpa using h)]
  simp
 obtain ⟨h1, h2⟩ := compact_upto lt ht zs.toArray (fun i j hij hj => by
  have hj' : j < zs.length := by simpa using hj
  rw [hg i (by omega), hg j hj']
  exact hp i j (by omega) hj' hij) zs.length (by simp)
 refine ⟨h1, fun x => ?_⟩
 unfold Lib.compact
 rw [h2, List.mem_iff_getElem]
 constructor
 ·rintro ⟨j, hj, e⟩
  exact ⟨j, hj, by rw [← hg j hj]; exact e⟩
 ·rintro ⟨j, hj, e⟩
  exact ⟨j, hj, by rw [hg j hj]; exact e⟩

/-- A list that is sorted in numbers, then its equal neighbours made one: the set's list. -/
theorem sort_compact_is (xs : List Int) : IsSet (fun x => x ∈ xs) (Lib.compact (xs.mergeSort fun x y => decide (x ≤ y))) := by
 have hs : (xs.mergeSort fun x y => decide (x ≤ y)).Pairwise fun a b => a = b ∨ a < b := by
  have := List.pairwise_mergeSort (le := fun (x y : Int) => decide (x ≤ y)) (fun a b c h1 h2 => by simp at *; omega) (fun a b => by simp; omega) xs
  exact this.imp fun h => by simp at h; omega
 obtain ⟨h1, h2⟩ := compact_is (fun a b : Int => a < b) (fun a b c h k => by omega) _ hs
 exact ⟨fun x => (h2 x).trans List.mem_mergeSort, h1⟩
/-- A list without repeats, sorted: the set's list. -/
theorem sort_nodup_is (xs : List Int) (hn : xs.Nodup) : IsSet (fun x => x ∈ xs) (xs.mergeSort fun x y => decide (x ≤ y)) := by
 refine ⟨fun x => List.mem_mergeSort, ?_⟩
 have h1 := List.pairwise_mergeSort (le := fun (x y : Int) => decide (x ≤ y)) (fun a b c h1 h2 => by simp at *; omega) (fun a b => by simp; omega) xs
 have h2 : (xs.mergeSort fun x y => decide (x ≤ y)).Nodup := (List.mergeSort_perm xs _).nodup_iff.2 hn
 exact (h1.and h2).imp fun ⟨h, k⟩ => by simp at h; omega

/-- Strictly ascending lists with the same members are one list. -/
theorem rise_unique {α : Type} (lt : α → α → Prop) (hi : ∀ a, ¬ lt a a) (ha : ∀ a b, lt a b → ¬ lt b a) : ∀ (l m : List α), l.Pairwise lt → m.Pairwise lt → (∀ x, x ∈ l ↔ x ∈ m) → l = m
 | [], [], _, _, _ => rfl
 | [], b :: m, _, _, h => by have := (h b).2 (by simp); simp at this
 | a :: l, [], _, _, h => by have := (h a).1 (by simp); simp at this
 | a :: l, b :: m, hl, hm, h => by
  rw [List.pairwise_cons] at hl hm
  have e : a = b := by
   have h1 := (h a).1 (by simp)
   have h2 := (h b).2 (by simp)
   rw [List.mem_cons] at h1 h2
   rcases h1 with h1 | h1
   ·exact h1
   ·rcases h2 with h2 | h2
    ·exact h2.symm
    ·exact absurd (hl.1 b h2) (ha _ _ (hm.1 a h1))
  subst e
  rw [rise_unique lt hi ha l m hl.2 hm.2 fun x => ?_]
  constructor
  ·intro hx
   have h1 := (h x).1 (by simp [hx])
   rw [List.mem_cons] at h1
   rcases h1 with h1 | h1
   ·subst h1; exact absurd (hl.1 x hx) (hi x)
   ·exact h1
  ·intro hx
   have h1 := (h x).2 (by simp [hx])
   rw [List.mem_cons] at h1
   rcases h1 with h1 | h1
   ·subst h1; exact absurd (hm.1 x hx) (hi x)
   ·exact h1

end Go.Proofs.YthofaoabgbgbdaaGreatDoor
