/-
  Labelled transition systems: what makes them valid, the edges from a state. Plain definitions; no program in sight.
-/
import Derived.Test.YtkffdamgekoifaaGreatDoorText
namespace Go.Proofs.YtkffdamgekoifaaGreatDoor
open Go Go.RowKit

def tauB : List UInt8 := [116, 97, 117]
def strLess (a b : ByteArray) : Bool := Op.bytesLess a.toList b.toList

/-- Labels: tau, then others that are labels, strictly increasing. -/
structure LabelsOk (ls : List ByteArray) : Prop where
  pos : 0 < ls.length
  most : ls.length ≤ 12
  first : ∀ h : 0 < ls.length, ls[0].toList = tauB
  label : ∀ i (h : i < ls.length), 1 ≤ i → labelOk ls[i].data.toList = true
  other : ∀ i (h : i < ls.length), 1 ≤ i → ls[i].toList ≠ tauB
  rise : ∀ i (h : i + 1 < ls.length), 1 ≤ i → strLess ls[i] ls[i + 1] = true

def edgeLess (a b : Edge) : Bool :=
  if a.src ≠ b.src then decide (a.src < b.src) else if a.lab ≠ b.lab then decide (a.lab < b.lab) else decide (a.dst < b.dst)

structure EdgeOk (t : Lts) (e : Edge) : Prop where
  s0 : 0 ≤ e.src
  s1 : e.src < t.states
  d0 : 0 ≤ e.dst
  d1 : e.dst < t.states
  l0 : 0 ≤ e.lab
  l1 : e.lab < t.labels.length

structure Valid (t : Lts) : Prop where
  st0 : 1 ≤ t.states
  st1 : t.states ≤ 40
  in0 : 0 ≤ t.initial
  in1 : t.initial < t.states
  labels : LabelsOk t.labels
  most : t.edges.length ≤ 300
  edge : ∀ i (h : i < t.edges.length), EdgeOk t t.edges[i]
  rise : ∀ i (h : i + 1 < t.edges.length), edgeLess t.edges[i] t.edges[i + 1] = true

/-- Deterministic. -/
structure Single (t : Lts) : Prop where
  visible : ∀ i (h : i < t.edges.length), t.edges[i].lab ≠ 0
  one : ∀ i (h : i + 1 < t.edges.length), ¬ (t.edges[i + 1].src = t.edges[i].src ∧ t.edges[i + 1].lab = t.edges[i].lab)

/-- A function that answers whether something holds, and turns nothing that was there. -/
def Decides (p : Prop) (w : World) (e : Ending) (w' : World) : Prop := ∃ b : Bool, e = .returned (.bool b) ∧ (b = true ↔ p) ∧ Below w.heap.size w w'

theorem Decides.yes {P : Program} {f : FuncId} {args : Array Value} {w : World} {p : Prop} (h : Calls P f args w (Decides p w)) (hp : p) :
    Calls P f args w fun e w' => e = .returned (.bool true) ∧ Below w.heap.size w w' :=
  h.mono fun _ _ ⟨_, he, hb, hw⟩ => ⟨by rw [he, hb.2 hp], hw⟩
theorem Decides.no {P : Program} {f : FuncId} {args : Array Value} {w : World} {p : Prop} (h : Calls P f args w (Decides p w)) (hp : ¬ p) :
    Calls P f args w fun e w' => e = .returned (.bool false) ∧ Below w.heap.size w w' :=
  h.mono fun _ _ ⟨b, he, hb, hw⟩ => ⟨by rw [he, show b = false from Bool.eq_false_iff.2 fun h => hp (hb.1 h)], hw⟩

/-- A pointer to a system: its four cells, and its two slices. -/
def LtsPtr (lo : Nat) (w : World) (b : Nat) (t : Lts) : Prop :=
  ∃ lv ev, b < w.heap.size ∧ w.cell? ⟨b, 0, none⟩ = some (.int .i64 t.states) ∧ w.cell? ⟨b, 1, none⟩ = some (.int .i64 t.initial) ∧ w.cell? ⟨b, 2, none⟩ = some lv ∧ w.cell? ⟨b, 3, none⟩ = some ev
    ∧ SliceK 1 encS lo w lv t.labels ∧ SliceK 3 encE lo w ev t.edges

theorem LtsPtr.below {lo : Nat} {w w' : World} {b : Nat} {t : Lts} (h : LtsPtr lo w b t) (hb : Below w.heap.size w w') : LtsPtr lo w' b t := by
  obtain ⟨lv, ev, h1, h2, h3, h4, h5, h6, h7⟩ := h
  exact ⟨lv, ev, Nat.lt_of_lt_of_le h1 hb.size, keeps hb h1 h2, keeps hb h1 h3, keeps hb h1 h4, keeps hb h1 h5, h6.below hb, h7.below hb⟩

def EdgeCells (w : World) (b o : Nat) (e : Edge) : Prop :=
  w.cell? ⟨b, o, none⟩ = some (.int .i64 e.src) ∧ w.cell? ⟨b, o + 1, none⟩ = some (.int .i64 e.lab) ∧ w.cell? ⟨b, o + 2, none⟩ = some (.int .i64 e.dst)

/-- No text among the labels is longer than 2^30. -/
def Short (ss : List ByteArray) : Prop := ∀ i (h : i < ss.length), ss[i].size ≤ 1073741824

end Go.Proofs.YtkffdamgekoifaaGreatDoor
