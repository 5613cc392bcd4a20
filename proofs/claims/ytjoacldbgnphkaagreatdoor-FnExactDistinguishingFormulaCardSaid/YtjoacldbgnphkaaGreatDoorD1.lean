/-
  Plain notions for the proofs of this seat: how slices, labelled transition systems and their edges lie in memory, and how such facts are carried from one world to a later one.
  An argument of a system's type, opened: what its reading says of the cells behind it.
  A map that numbers its keys in the order in which they came.
  A map whose keys lead to values, in the order in which they came.
  Pairs of states as keys of a map.
  Partitions, plainly: numbers by first sight, and the refinement of the states of a deterministic system.
-/
import Derived.WalkKit
import Derived.WalkSpells
import Derived.WalkLawsBesides
import Derived.Lib.Hide
import Derived.BigQuiet
import Derived.Deep.QuietTactic
import Derived.Deep.LoopGhost
import Derived.ProofKit
import Derived.Lib.ItoaMem
import Derived.OpenShut
import Derived.Deep.Strs
import Derived.Deep.Slices
import Derived.Maps.OwnOps
import Derived.Maps.RangeRun
import Derived.Test.YtjoacldbgnphkaaGreatDoorProg
import Derived.DeepKeys4
namespace Go.Proofs.YtjoacldbgnphkaaGreatDoor
open Go Go.RowKit

structure Edge where
 src : Int
 lab : Int
 dst : Int
 deriving DecidableEq

structure Lts where
 states : Int
 initial : Int
 labels : List ByteArray
 edges : List Edge

/-- The elements xs of a slice with the address a lie in one block, from lo on, each in k cells. -/
def RowK {α : Type} (k : Nat) (enc : α → List Value) (lo : Nat) (w : World) (a : Option Addr) (xs : List α) : Prop :=
 xs.length = 0 ∨ ∃ b off, a = some ⟨b, off, none⟩ ∧ lo ≤ b ∧ b < w.heap.size ∧ ∀ i (h : i < xs.length) j, j < k → w.cell? ⟨b, off + i * k + j, none⟩ = (enc xs[i])[j]?

/-- A slice's value that holds the elements xs. -/
def SliceK {α : Type} (k : Nat) (enc : α → List Value) (lo : Nat) (w : World) (v : Value) (xs : List α) : Prop :=
 ∃ a cap, v = .slice a xs.length cap ∧ xs.length ≤ cap ∧ cap ≤ 9223372036854775807 ∧ RowK k enc lo w a xs

theorem RowK.below {α : Type} {k : Nat} {enc : α → List Value} {lo : Nat} {w w' : World} {a : Option Addr} {xs : List α} (h : RowK k enc lo w a xs) (hb : Below w.heap.size w w') : RowK k enc lo w' a xs := by
 rcases h with h | ⟨b, off, ha, h1, h2, h3⟩
 ·exact .inl h
 ·exact .inr ⟨b, off, ha, h1, Nat.lt_of_lt_of_le h2 hb.size, fun i hi j hj => by rw [hb.cell h2]; exact h3 i hi j hj⟩

theorem SliceK.below {α : Type} {k : Nat} {enc : α → List Value} {lo : Nat} {w w' : World} {v : Value} {xs : List α} (h : SliceK k enc lo w v xs) (hb : Below w.heap.size w w') : SliceK k enc lo w' v xs := by
 obtain ⟨a, cap, h1, h2, h4, h3⟩ := h
 exact ⟨a, cap, h1, h2, h4, h3.below hb⟩

theorem RowK.mono {α : Type} {k : Nat} {enc : α → List Value} {lo lo' : Nat} {w : World} {a : Option Addr} {xs : List α} (h : RowK k enc lo w a xs) (hl : lo' ≤ lo) : RowK k enc lo' w a xs := by
 rcases h with h | ⟨b, off, ha, h1, h2, h3⟩
 ·exact .inl h
 ·exact .inr ⟨b, off, ha, Nat.le_trans hl h1, h2, h3⟩

theorem SliceK.mono {α : Type} {k : Nat} {enc : α → List Value} {lo lo' : Nat} {w : World} {v : Value} {xs : List α} (h : SliceK k enc lo w v xs) (hl : lo' ≤ lo) : SliceK k enc lo' w v xs := by
 obtain ⟨a, cap, h1, h2, h4, h3⟩ := h
 exact ⟨a, cap, h1, h2, h4, h3.mono hl⟩

/-- An element's one cell. -/
def encI (n : Int) : List Value := [.int .i64 n]
def encS (s : ByteArray) : List Value := [.string s]
def encE (e : Edge) : List Value := [.int .i64 e.src, .int .i64 e.lab, .int .i64 e.dst]
def encV (v : Value) : List Value := [v]

theorem RowK.one {α : Type} {enc : α → List Value} {lo : Nat} {w : World} {a : Option Addr} {xs : List α} (h : RowK 1 enc lo w a xs) {i : Nat} (hi : i < xs.length) :
  ∃ b off, a = some ⟨b, off, none⟩ ∧ lo ≤ b ∧ b < w.heap.size ∧ w.cell? ⟨b, off + i, none⟩ = (enc xs[i])[0]? := by
 rcases h with h | ⟨b, off, ha, h1, h2, h3⟩
 ·omega
 ·exact ⟨b, off, ha, h1, h2, by have := h3 i hi 0 (by omega); simpa using this⟩

theorem RowK.edge {lo : Nat} {w : World} {a : Option Addr} {xs : List Edge} (h : RowK 3 encE lo w a xs) {i : Nat} (hi : i < xs.length) :
  ∃ b off, a = some ⟨b, off, none⟩ ∧ lo ≤ b ∧ b < w.heap.size ∧ w.cell? ⟨b, off + i * 3, none⟩ = some (.int .i64 xs[i].src) ∧ w.cell? ⟨b, off + i * 3 + 1, none⟩ = some (.int .i64 xs[i].lab) ∧ w.cell? ⟨b, off + i * 3 + 2, none⟩ = some (.int .i64 xs[i].dst) := by
 rcases h with h | ⟨b, off, ha, h1, h2, h3⟩
 ·omega
 ·exact ⟨b, off, ha, h1, h2, by have := h3 i hi 0 (by omega); simpa [encE] using this, by have := h3 i hi 1 (by omega); simpa [encE] using this, by have := h3 i hi 2 (by omega); simpa [encE] using this⟩

/-- A cell of an old block, later. -/
theorem keeps {B : Nat} {w w' : World} (h : Below B w w') {b o : Nat} {v : Value} (hb : b < B) (hc : w.cell? ⟨b, o, none⟩ = some v) : w'.cell? ⟨b, o, none⟩ = some v :=
 (h.cell (p := ⟨b, o, none⟩) hb).trans hc

theorem both {W w1 : World} (hb : Below W.heap.size W w1) : (∀ b o, b < W.heap.size → w1.cell? ⟨b, o, none⟩ = W.cell? ⟨b, o, none⟩) ∧ (∀ b o, b < W.heap.size → w1.frozen? ⟨b, o, none⟩ = W.frozen? ⟨b, o, none⟩) :=
 ⟨fun b o h => hb.cell (p := ⟨b, o, none⟩) h, fun b o h => hb.frozen (p := ⟨b, o, none⟩) h⟩

theorem ret_int {k : IntKind} {a b : Int} (h : a = b) : Ending.returned (.int k a) = .returned (.int k b) := by rw [h]
theorem ret_bool {a b : Bool} (h : a = b) : Ending.returned (.bool a) = .returned (.bool b) := by rw [h]

/-- The value of a system (a struct). -/
def LtsAt (lo : Nat) (w : World) (v : Value) (t : Lts) : Prop :=
 ∃ lv ev, v = .agg #[.int .i64 t.states, .int .i64 t.initial, lv, ev] ∧ SliceK 1 encS lo w lv t.labels ∧ SliceK 3 encE lo w ev t.edges

theorem LtsAt.below {lo : Nat} {w w' : World} {v : Value} {t : Lts} (h : LtsAt lo w v t) (hb : Below w.heap.size w w') : LtsAt lo w' v t := by
 obtain ⟨lv, ev, h1, h2, h3⟩ := h
 exact ⟨lv, ev, h1, h2.below hb, h3.below hb⟩

/-- A slice of slices of numbers. -/
def IntssAt (lo : Nat) (w : World) (v : Value) (xss : List (List Int)) : Prop :=
 ∃ vs : List Value, vs.length = xss.length ∧ SliceK 1 encV lo w v vs ∧ ∀ i (h : i < vs.length) (h' : i < xss.length), SliceK 1 encI lo w vs[i] xss[i]

theorem IntssAt.below {lo : Nat} {w w' : World} {v : Value} {xss : List (List Int)} (h : IntssAt lo w v xss) (hb : Below w.heap.size w w') : IntssAt lo w' v xss := by
 obtain ⟨vs, h1, h2, h3⟩ := h
 exact ⟨vs, h1, h2.below hb, fun i hi hi' => (h3 i hi hi').below hb⟩

/-- No text is longer than a Go text can be. -/
def StrsOk (ss : List ByteArray) : Prop := ∀ s ∈ ss, s.size ≤ 9223372036854775807

theorem drews {B : Nat} {a w : World} (h : Below B a w) (n : Nat) : Below B a (w.drewN n) := ⟨h.os, h.tape, h.output, h.size, h.block⟩

/-- A later world: what was there when the heap was that of w0 is as it was. -/
structure Later (w0 : World) where
 w : World
 h : Below w0.heap.size w0 w

instance (w : World) : Nonempty (Later w) := ⟨⟨w, Below.refl _ _⟩⟩

/-- A region that draws its order and whose operations read, or call functions that turn nothing that was there: walked once. -/
theorem wp_region_later {P : Program} {id : Nat} {Q : Exit → Act → World → Prop} {a : Act} {w : World} {l : List Oper} (hm : P.follows .mixedOrders = true) (hB : Region.lexB .any l.toArray = true)
  (h : wpQuiet P l.toArray (fun w' => ∃ g : Later w, w' = g.w) (fun a' => ∀ w', (∃ g : Later w, w' = g.w) → Q .normal a' w') l a) : (Code.region id l.toArray true).wp P Q a w :=
 wp_region_quiet (C := fun w' => ∃ g : Later w, w' = g.w) hm hB ⟨⟨_, (Below.refl _ w).drew⟩, rfl⟩ (by simpa using h)

theorem later_call {P : Program} {f : FuncId} {args : Array Value} {w0 : World} {g : Later w0} {v : Value}
  (h : Calls P f args g.w fun e w' => e = .returned v ∧ Below g.w.heap.size g.w w') : Calls P f args g.w fun e w'' => e = .returned v ∧ ∃ g' : Later w0, w'' = g'.w :=
 h.mono fun _ w' ⟨he, hb⟩ => ⟨he, ⟨⟨w', g.h.trans (hb.mono g.h.size)⟩, rfl⟩⟩

theorem later_same {P : Program} {f : FuncId} {args : Array Value} {w0 : World} {g : Later w0} {v : Value}
  (h : Calls P f args g.w fun e w' => e = .returned v ∧ g.w = w') : Calls P f args g.w fun e w'' => e = .returned v ∧ ∃ g' : Later w0, w'' = g'.w :=
 h.mono fun _ _ ⟨he, hb⟩ => ⟨he, ⟨g, hb.symm⟩⟩

/-- A fact on an old cell, in every later world. -/
theorem later_cell {w0 : World} {b o : Nat} {v : Value} (hb : b < w0.heap.size) (hc : w0.cell? ⟨b, o, none⟩ = some v) : ∀ g : Later w0, g.w.cell? ⟨b, o, none⟩ = some v :=
 fun g => keeps g.h hb hc

/-- A row of the call's own reads as a slice. -/
theorem SliceK.of_owns {α : Type} {k : Nat} {enc : α → List Value} (hk : ∀ x, (enc x).length = k) {lo e : Nat} {w : World} {v : Value} {n : Nat} {xs : List α} (hn : n = xs.length) (h : w.ownsRow lo e k v n (xs.flatMap enc)) : SliceK k enc lo w v xs := by
 subst hn
 obtain ⟨h0, ⟨rfl, h1⟩ | ⟨g, cap, cur, rfl, hg, hh, hc, hm, hs, ht⟩⟩ := h
 ·exact ⟨none, 0, by rw [h1], by omega, by omega, .inl h1⟩
 ·refine ⟨_, _, rfl, hc, by simpa [maxLen] using hm, .inr ⟨g, 0, rfl, hg, (Array.getElem?_eq_some_iff.1 hh).1, fun i hi j hj => ?_⟩⟩
  have hlt : i * k + j < xs.length * k := by
   have := Nat.mul_le_mul_right k (Nat.succ_le_of_lt hi)
   rw [Nat.succ_mul] at this
   omega
  have e1 : w.cell? ⟨g, i * k + j, none⟩ = (xs.flatMap enc)[i * k + j]? := by
   rw [cell_of_row w g _ cur e (0, 0) hh, ← ht, List.getElem?_take, if_pos hlt]
   simp
  rw [Nat.zero_add, e1]
  clear e1 hlt ht hs h0
  induction xs generalizing i with
  | nil => simp at hi
  | cons x r ih =>
   rw [List.flatMap_cons]
   cases i with
   | zero => rw [Nat.zero_mul, Nat.zero_add, List.getElem?_append_left (by rw [hk]; exact hj)]; rfl
   | succ i =>
    rw [List.getElem?_append_right (by rw [hk, Nat.succ_mul]; omega), hk, show (i + 1) * k + j - k = i * k + j from by rw [Nat.succ_mul]; omega]
    exact ih (by simp at hc ⊢; omega) _ (by simpa using hi)

theorem encI_len (n : Int) : (encI n).length = 1 := rfl
theorem encS_len (n : ByteArray) : (encS n).length = 1 := rfl
theorem encV_len (n : Value) : (encV n).length = 1 := rfl
theorem encE_len (n : Edge) : (encE n).length = 3 := rfl

/-- A slice that lies elsewhere than the row that was written. -/
theorem SliceK.grown {α : Type} {k : Nat} {enc : α → List Value} {lo : Nat} {w w' : World} {row : Option Nat} {v : Value} {xs : List α} (h : SliceK k enc lo w v xs) (hg : w.grownBy w' row) (hne : ∀ k, row = some k → k < lo) : SliceK k enc lo w' v xs := by
 obtain ⟨a, cap, h1, h2, h4, h3⟩ := h
 refine ⟨a, cap, h1, h2, h4, ?_⟩
 rcases h3 with h | ⟨b, off, ha, h1, h2, h3⟩
 ·exact .inl h
 ·exact .inr ⟨b, off, ha, h1, Nat.lt_of_lt_of_le h2 hg.size, fun i hi j hj => by
   rw [World.cell?_of_block (w := w) (hg.block b h2 (fun e => by have := hne b e.symm; omega))]; exact h3 i hi j hj⟩

theorem filled_set {α : Type} (xs : List α) (f : α → Value) (z : Value) (k : Nat) (h : k < xs.length) :
  ((xs.take k).map f ++ List.replicate (xs.length - k) z).set k (f xs[k]) = (xs.take (k + 1)).map f ++ List.replicate (xs.length - (k + 1)) z := by
 have hl : ((xs.take k).map f).length = k := by simp; omega
 rw [show xs.length - k = (xs.length - (k + 1)) + 1 from by omega, List.replicate_succ, List.set_append_right _ _ (by omega), hl, Nat.sub_self, List.set_cons_zero,
  List.take_succ_eq_append_getElem h, List.map_append, List.append_assoc]
 rfl

theorem filled_get {α : Type} (xs : List α) (f : α → Value) (z : Value) (k : Nat) (h : k < xs.length) :
  ((xs.take k).map f ++ List.replicate (xs.length - k) z)[k]? = some z := by
 have hl : ((xs.take k).map f).length = k := by simp; omega
 rw [List.getElem?_append_right (by omega), hl, Nat.sub_self, List.getElem?_replicate, if_pos (by omega)]

theorem owns_below {w w' : World} {base e size n : Nat} {v : Value} {xs : List Value} (h : w.ownsRow base e size v n xs) (hb : Below w.heap.size w w') : w'.ownsRow base e size v n xs :=
 h.kept (row := none) ⟨hb.os, hb.tape, hb.output, hb.size, fun k hk _ => hb.block k hk⟩ (by cases v.ownBlock <;> simp)

theorem filledE_len (xs : List Edge) (k : Nat) (h : k ≤ xs.length) : ((xs.take k).flatMap encE).length = k * 3 := by
 induction k with
 | zero => simp
 | succ k ih =>
  rw [List.take_succ_eq_append_getElem (by omega), List.flatMap_append, List.length_append, ih (by omega)]
  simp [encE, Nat.succ_mul]

theorem filledE_get (xs : List Edge) (z : Value) (k j : Nat) (h : k < xs.length) (hj : j < 3) :
  ((xs.take k).flatMap encE ++ List.replicate ((xs.length - k) * 3) z)[k * 3 + j]? = some z := by
 have hl := filledE_len xs k (by omega)
 rw [List.getElem?_append_right (by omega), hl, List.getElem?_replicate, if_pos (by omega)]

theorem filledE_set (xs : List Edge) (z : Value) (k : Nat) (h : k < xs.length) :
  ((((xs.take k).flatMap encE ++ List.replicate ((xs.length - k) * 3) z).set (k * 3) (.int .i64 xs[k].src)).set (k * 3 + 1) (.int .i64 xs[k].lab)).set (k * 3 + 2) (.int .i64 xs[k].dst)
   = (xs.take (k + 1)).flatMap encE ++ List.replicate ((xs.length - (k + 1)) * 3) z := by
 have hl := filledE_len xs k (by omega)
 rw [show (xs.length - k) * 3 = (xs.length - (k + 1)) * 3 + 1 + 1 + 1 from by omega, List.replicate_succ, List.replicate_succ, List.replicate_succ,
  List.set_append_right _ _ (by omega), List.set_append_right _ _ (by omega), List.set_append_right _ _ (by omega), hl,
  show k * 3 - k * 3 = 0 from by omega, show k * 3 + 1 - k * 3 = 1 from by omega, show k * 3 + 2 - k * 3 = 2 from by omega,
  List.take_succ_eq_append_getElem h, List.flatMap_append, List.append_assoc]
 simp [encE]

theorem grown_setCell (w : World) (p : Addr) (u : Value) : w.grownBy (w.setCell p u) (some p.block) :=
 ⟨rfl, rfl, rfl, by simp, fun k _ hk => Go.RowKit.Below.heap_setCell w p u k (fun h => hk (by rw [h]))⟩

theorem owns_setOther {w : World} {base e size n : Nat} {v : Value} {xs : List Value} (h : w.ownsRow base e size v n xs) (p : Addr) (u : Value) (hne : v.ownBlock ≠ some p.block) : (w.setCell p u).ownsRow base e size v n xs :=
 h.kept (grown_setCell w p u) (.inr hne)

/-- A block known whole. -/
def Blk (w : World) (b : Nat) (cs : List Value) (t : TypeId) : Prop := w.heap[b]? = some (.cells cs.toArray t (0, 0))

theorem Blk.lt {w : World} {b : Nat} {cs : List Value} {t : TypeId} (h : Blk w b cs t) : b < w.heap.size := (Array.getElem?_eq_some_iff.1 h).1
theorem Blk.cell {w : World} {b : Nat} {cs : List Value} {t : TypeId} (h : Blk w b cs t) (i : Nat) {v : Value} (hi : cs[i]? = some v) : w.cell? ⟨b, i, none⟩ = some v := by
 rw [cell_of_row w b i _ t (0, 0) h]; simpa using hi
theorem Blk.frozen {w : World} {b : Nat} {cs : List Value} {t : TypeId} (h : Blk w b cs t) (i : Nat) : w.frozen? ⟨b, i, none⟩ = false := frozen_of_row w b i _ t h
theorem Blk.below {w w' : World} {b : Nat} {cs : List Value} {t : TypeId} (h : Blk w b cs t) (hb : Below w.heap.size w w') : Blk w' b cs t := (hb.block b h.lt).trans h
theorem Blk.set {w : World} {b : Nat} {cs : List Value} {t : TypeId} (h : Blk w b cs t) (i : Nat) (v : Value) : Blk (w.setCell ⟨b, i, none⟩ v) b (cs.set i v) t := by
 have := heap_setCell_same w b i _ t v h
 unfold Blk
 rw [this]
 simp
theorem Blk.setOther {w : World} {b : Nat} {cs : List Value} {t : TypeId} (h : Blk w b cs t) (p : Addr) (v : Value) (hp : b ≠ p.block) : Blk (w.setCell p v) b cs t := (heap_setCell_other w p b v hp).trans h
theorem Blk.new (w : World) (cs : List Value) (t : TypeId) : Blk (w.alloc (.cells cs.toArray t)) w.heap.size cs t := heap_alloc_new w _
theorem Blk.alloc {w : World} {b : Nat} {cs : List Value} {t : TypeId} (h : Blk w b cs t) (o : Obj) : Blk (w.alloc o) b cs t := (Go.RowKit.Below.heap_alloc w o b h.lt).trans h

theorem grown_refl (w : World) (row : Option Nat) : w.grownBy w row := ⟨rfl, rfl, rfl, Nat.le_refl _, fun _ _ _ => rfl⟩
theorem grown_trans {a b c : World} {row : Option Nat} (h : a.grownBy b row) (k : b.grownBy c row) : a.grownBy c row :=
 ⟨k.os.trans h.os, k.tape.trans h.tape, k.output.trans h.output, Nat.le_trans h.size k.size, fun i hi hn => (k.block i (Nat.lt_of_lt_of_le hi h.size) hn).trans (h.block i hi hn)⟩
theorem grown_below {w w' : World} (hb : Below w.heap.size w w') (row : Option Nat) : w.grownBy w' row := ⟨hb.os, hb.tape, hb.output, hb.size, fun k hk _ => hb.block k hk⟩
theorem below_grown {B : Nat} {w w' : World} {row : Option Nat} (hg : w.grownBy w' row) (hB : B ≤ w.heap.size) (hr : ∀ k, row = some k → B ≤ k) : Below B w w' :=
 (Below.refl B w).grown hg hB hr

theorem flat_encV (vs : List Value) : vs.flatMap encV = vs := by
 induction vs with
 | nil => rfl
 | cons a r ih => simp [encV, ih]
theorem flat_encI (xs : List Int) : xs.flatMap encI = xs.map (Value.int .i64) := by
 induction xs with
 | nil => rfl
 | cons a r ih => simp [encI, ih]
theorem flat_encS (xs : List ByteArray) : xs.flatMap encS = xs.map Value.string := by
 induction xs with
 | nil => rfl
 | cons a r ih => simp [encS, ih]

/-- A slice of slices of numbers, all in memory of the call's own, no two rows in one block. -/
def OwnIntss (eo ei lo : Nat) (w : World) (v : Value) (vs : List Value) (xss : List (List Int)) : Prop :=
 vs.length = xss.length ∧ w.ownsRow lo eo 1 v vs.length vs ∧ (∀ (i : Nat) (h : i < vs.length) (h' : i < xss.length), w.ownsRow lo ei 1 vs[i] xss[i].length (xss[i].map (Value.int .i64)))
  ∧ (∀ (i j : Nat) (h : i < vs.length) (h' : j < vs.length), i ≠ j → vs[i].ownBlock = none ∨ vs[i].ownBlock ≠ vs[j].ownBlock)
  ∧ (∀ (i : Nat) (h : i < vs.length), vs[i].ownBlock = none ∨ vs[i].ownBlock ≠ v.ownBlock)

theorem OwnIntss.below {eo ei lo : Nat} {w w' : World} {v : Value} {vs : List Value} {xss : List (List Int)} (h : OwnIntss eo ei lo w v vs xss) (hb : Below w.heap.size w w') : OwnIntss eo ei lo w' v vs xss := by
 obtain ⟨h1, h2, h3, h4, h5⟩ := h
 exact ⟨h1, owns_below h2 hb, fun i hi hi' => owns_below (h3 i hi hi') hb, h4, h5⟩

/-- One row is written. -/
theorem OwnIntss.row {eo ei lo : Nat} {w w' : World} {v : Value} {vs : List Value} {xss : List (List Int)} (h : OwnIntss eo ei lo w v vs xss) (j : Nat) (hj : j < vs.length) (ys : List Int)
  (hg : w.grownBy w' vs[j].ownBlock) (ho : w'.ownsRow lo ei 1 vs[j] ys.length (ys.map (Value.int .i64))) : OwnIntss eo ei lo w' v vs (xss.set j ys) := by
 obtain ⟨h1, h2, h3, h4, h5⟩ := h
 refine ⟨by simpa using h1, h2.kept hg ?_, fun i hi hi' => ?_, h4, h5⟩
 ·rcases h5 j hj with h | h
  ·cases hv : v.ownBlock with
   | none => exact .inl rfl
   | some b => exact .inr (by rw [h]; simp)
  ·exact .inr (fun e => h e.symm)
 ·by_cases hij : j = i
  ·subst hij
   simpa using ho
  ·rw [List.getElem_set_ne hij]
   refine (h3 i hi (by simpa using hi')).kept hg ?_
   exact h4 i j hi hj (fun e => hij e.symm)

theorem OwnIntss.at {eo ei lo : Nat} {w : World} {v : Value} {vs : List Value} {xss : List (List Int)} (h : OwnIntss eo ei lo w v vs xss) : IntssAt lo w v xss := by
 obtain ⟨h1, h2, h3, -, -⟩ := h
 refine ⟨vs, h1, SliceK.of_owns encV_len rfl (by rw [flat_encV]; exact h2), fun i hi hi' => ?_⟩
 exact SliceK.of_owns (e := ei) encI_len rfl (by rw [flat_encI]; exact h3 i hi hi')

/-- Of what was there, blocks from lo up to hi alone may have turned. -/
structure Turns (lo hi : Nat) (w w' : World) : Prop where
 os : w'.os = w.os
 tape : w'.tape = w.tape
 output : w'.output = w.output
 size : w.heap.size ≤ w'.heap.size
 block : ∀ k, k < w.heap.size → (k < lo ∨ hi ≤ k) → w'.heap[k]? = w.heap[k]?

theorem turns_refl (lo hi : Nat) (w : World) : Turns lo hi w w := ⟨rfl, rfl, rfl, Nat.le_refl _, fun _ _ _ => rfl⟩
theorem turns_trans {lo hi : Nat} {a b c : World} (h : Turns lo hi a b) (k : Turns lo hi b c) : Turns lo hi a c :=
 ⟨k.os.trans h.os, k.tape.trans h.tape, k.output.trans h.output, Nat.le_trans h.size k.size, fun i hi hn => (k.block i (Nat.lt_of_lt_of_le hi h.size) hn).trans (h.block i hi hn)⟩
theorem turns_below {lo hi : Nat} {w w' : World} (hb : Below w.heap.size w w') : Turns lo hi w w' := ⟨hb.os, hb.tape, hb.output, hb.size, fun k hk _ => hb.block k hk⟩
theorem turns_grown {lo hi : Nat} {w w' : World} {row : Option Nat} (hg : w.grownBy w' row) (hr : ∀ k, row = some k → lo ≤ k ∧ k < hi) : Turns lo hi w w' :=
 ⟨hg.os, hg.tape, hg.output, hg.size, fun k hk hn => hg.block k hk (fun e => by have := hr k e.symm; omega)⟩
theorem turns_set {lo hi : Nat} (w : World) (p : Addr) (u : Value) (h1 : lo ≤ p.block) (h2 : p.block < hi) : Turns lo hi w (w.setCell p u) :=
 turns_grown (grown_setCell w p u) (fun k e => by cases e; exact ⟨h1, h2⟩)
theorem below_turns {lo hi : Nat} {w w' : World} (h : Turns lo hi w w') (hl : lo ≤ w.heap.size) : Below lo w w' := ⟨h.os, h.tape, h.output, h.size, fun k hk => h.block k (by omega) (.inl hk)⟩
theorem owns_turns {lo hi : Nat} {w w' : World} {base e size n : Nat} {v : Value} {xs : List Value} (h : w.ownsRow base e size v n xs) (ht : Turns lo hi w w') (hne : ∀ b, v.ownBlock = some b → b < lo ∨ hi ≤ b) : w'.ownsRow base e size v n xs := by
 refine ⟨h.1, ?_⟩
 rcases h.2 with hn | ⟨g, cap, cur, rfl, hb, hgg, rest⟩
 ·exact .inl hn
 ·exact .inr ⟨g, cap, cur, rfl, hb, by rw [ht.block g (Array.getElem?_eq_some_iff.1 hgg).1 (hne g rfl)]; exact hgg, rest⟩
theorem OwnIntss.turns {eo ei base lo hi : Nat} {w w' : World} {v : Value} {vs : List Value} {xss : List (List Int)} (h : OwnIntss eo ei base w v vs xss) (ht : Turns lo hi w w') (hb : hi ≤ base) : OwnIntss eo ei base w' v vs xss := by
 obtain ⟨h1, h2, h3, h4, h5⟩ := h
 exact ⟨h1, owns_turns h2 ht (fun b e => .inr (Nat.le_trans hb (h2.lt b e).1)), fun i hi hi' => owns_turns (h3 i hi hi') ht (fun b e => .inr (Nat.le_trans hb ((h3 i hi hi').lt b e).1)), h4, h5⟩

theorem own_cell {w : World} {base e size g n cap : Nat} {xs : List Value} (h : w.ownsRow base e size (.slice (some ⟨g, 0, none⟩) n cap) n xs) (j : Nat) (hj : j < n * size) : ∃ v, w.cell? ⟨g, j, none⟩ = some v :=
 ⟨xs[j]'(by rw [h.1]; exact hj), by rw [h.cellAt j hj]; exact List.getElem?_eq_getElem _⟩

theorem own_base {w : World} {base e size n g cap : Nat} {xs : List Value} (h : w.ownsRow base e size (.slice (some ⟨g, 0, none⟩) n cap) n xs) : w.ownsRow g e size (.slice (some ⟨g, 0, none⟩) n cap) n xs := by
 obtain ⟨h0, ⟨h, _⟩ | ⟨g', cap', cur, h, _, rest⟩⟩ := h
 ·simp at h
 ·simp only [Value.slice.injEq, Option.some.injEq, Addr.mk.injEq, and_true, true_and] at h
  obtain ⟨rfl, rfl⟩ := h
  exact ⟨h0, .inr ⟨g, cap, cur, rfl, Nat.le_refl _, rest⟩⟩
theorem turns_wide {lo hi lo' hi' : Nat} {w w' : World} (h : Turns lo hi w w') (hl : lo' ≤ lo) (hh : hi ≤ hi') : Turns lo' hi' w w' := ⟨h.os, h.tape, h.output, h.size, fun k hk hn => h.block k hk (by omega)⟩
theorem Blk.turns {lo hi : Nat} {w w' : World} {b : Nat} {cs : List Value} {t : TypeId} (h : Blk w b cs t) (ht : Turns lo hi w w') (hb : b < lo ∨ hi ≤ b) : Blk w' b cs t := (ht.block b h.lt hb).trans h

theorem owns_slice {w : World} {base e size n : Nat} {v : Value} {xs : List Value} (h : w.ownsRow base e size v n xs) : ∃ a c, v = .slice a n c ∧ n ≤ c ∧ c ≤ 9223372036854775807 := by
 rcases h.2 with ⟨rfl, rfl⟩ | ⟨g, cap, cur, rfl, -, -, h1, h2, -⟩
 ·exact ⟨none, 0, rfl, Nat.le_refl _, by omega⟩
 ·exact ⟨_, _, rfl, h1, by simpa [maxLen] using h2⟩

theorem own_lower {w : World} {base base' e size n : Nat} {v : Value} {xs : List Value} (h : w.ownsRow base e size v n xs) (hb : base' ≤ base) : w.ownsRow base' e size v n xs := by
 obtain ⟨h0, h | ⟨g, cap, cur, h1, h2, rest⟩⟩ := h
 ·exact ⟨h0, .inl h⟩
 ·exact ⟨h0, .inr ⟨g, cap, cur, h1, Nat.le_trans hb h2, rest⟩⟩

theorem own_types {w : World} {b1 b2 e1 e2 s1 s2 n1 n2 : Nat} {v1 v2 : Value} {x1 x2 : List Value} (h1 : w.ownsRow b1 e1 s1 v1 n1 x1) (h2 : w.ownsRow b2 e2 s2 v2 n2 x2) (he : e1 ≠ e2) : v1.ownBlock = none ∨ v1.ownBlock ≠ v2.ownBlock := by
 rcases h1.2 with ⟨rfl, -⟩ | ⟨g1, c1, u1, rfl, -, hg1, -⟩
 ·exact .inl rfl
 ·refine .inr fun e => ?_
  rcases h2.2 with ⟨rfl, -⟩ | ⟨g2, c2, u2, rfl, -, hg2, -⟩
  ·simp [Value.ownBlock] at e
  ·simp only [Value.ownBlock, Option.some.injEq] at e
   subst e
   rw [hg1] at hg2
   simp only [Option.some.injEq, Obj.cells.injEq] at hg2
   exact he hg2.2.1

/-- One row more, which lies behind all that was there. -/
theorem OwnIntss.push {eo ei lo B : Nat} {w0 w w' : World} {v v' rv : Value} {vs : List Value} {xss : List (List Int)} {xs : List Int} (he : eo ≠ ei) (h : OwnIntss eo ei lo w0 v vs xss) (hB : w0.heap.size ≤ B)
  (hb : Below w0.heap.size w0 w) (hr : w.ownsRow B ei 1 rv xs.length (xs.map (Value.int .i64))) (hlo : lo ≤ B)
  (hg : w.grownBy w' v.ownBlock) (hv : w'.ownsRow lo eo 1 v' (vs.length + 1) (vs ++ [rv])) : OwnIntss eo ei lo w' v' (vs ++ [rv]) (xss ++ [xs]) := by
 obtain ⟨h1, h2, h3, h4, h5⟩ := h
 have k2 := owns_below h2 hb
 have hrow : ∀ (i : Nat) (h : i < vs.length) (h' : i < xss.length), w'.ownsRow lo ei 1 vs[i] xss[i].length (xss[i].map (Value.int .i64)) := fun i hi hi' =>
  (owns_below (h3 i hi hi') hb).kept hg (h5 i hi)
 have hnew : w'.ownsRow lo ei 1 rv xs.length (xs.map (Value.int .i64)) := (own_lower hr hlo).kept hg (own_types hr k2 (fun e => he e.symm))
 have hall : ∀ (i : Nat) (h : i < (vs ++ [rv]).length) (h' : i < (xss ++ [xs]).length), w'.ownsRow lo ei 1 (vs ++ [rv])[i] (xss ++ [xs])[i].length ((xss ++ [xs])[i].map (Value.int .i64)) := fun i hi hi' => by
  by_cases hlt : i < vs.length
  ·rw [List.getElem_append_left hlt]
   simp only [List.getElem_append_left (show i < xss.length by omega)]
   exact hrow i hlt (by omega)
  ·have e : i = vs.length := by simp at hi; omega
   subst e
   simp only [List.getElem_concat_length]
   have : (xss ++ [xs])[vs.length] = xs := by simp [h1]
   rw [this]
   exact hnew
 refine ⟨by simp [h1], by simpa using hv, hall, fun i j hi hj hij => ?_, fun i hi => own_types (hall i hi (by simp at hi ⊢; omega)) hv (fun e => he e.symm)⟩
 have hold : ∀ (i : Nat) (h : i < vs.length) b, vs[i].ownBlock = some b → b < w0.heap.size := fun i hi b e => ((h3 i hi (by omega)).lt b e).2
 have hnb : ∀ b, rv.ownBlock = some b → B ≤ b := fun b e => (hr.lt b e).1
 by_cases h1' : i < vs.length <;> by_cases h2' : j < vs.length
 ·rw [List.getElem_append_left h1', List.getElem_append_left h2']
  exact h4 i j h1' h2' hij
 ·have e : j = vs.length := by simp at hj; omega
  subst e
  rw [List.getElem_append_left h1', List.getElem_concat_length rfl]
  cases hb1 : vs[i].ownBlock with
  | none => exact .inl rfl
  | some b => exact .inr fun e => by have := hold i h1' b hb1; have := hnb b e.symm; omega
 ·have e : i = vs.length := by simp at hi; omega
  subst e
  rw [List.getElem_append_left h2', List.getElem_concat_length rfl]
  cases hb1 : rv.ownBlock with
  | none => exact .inl rfl
  | some b => exact .inr fun e => by have := hold j h2' b e.symm; have := hnb b hb1; omega
 ·simp at hi hj; omega

end Go.Proofs.YtjoacldbgnphkaaGreatDoor

namespace Go.Proofs.YtjoacldbgnphkaaGreatDoor
open Go Go.ChangeShapes Go.WideShapes Go.ChangeAt Go.RowKit Go.Deep

instance instEdgeOpen : Inhabited Edge := ⟨⟨0, 0, 0⟩⟩

section
variable {H : Type} {enc : TypeId × Value → H} {P : Program} {w : World} {base : Nat} {spare : Nat → Bool} {held : Bool}

theorem spot_none {w : World} {a : Addr} {v : Value} (h : w.cell? a = some v) : a = ⟨a.block, a.off, none⟩ := by
 unfold World.cell? at h
 split at h
 ·split at h
  ·cases h
  ·next hs =>
   obtain ⟨b, o, s⟩ := a
   cases s with
   | none => rfl
   | some x => simp at hs
 ·cases h

theorem rowK_of {α : Type} {k : Nat} {enc : α → List Value} {w : World} {a : Addr} {xs : List α} (hk : 0 < k) (henc : ∀ x, (enc x).length = k) (h : ∀ i (hi : i < xs.length) j, j < k → w.cell? (a.add (i * k + j)) = (enc xs[i])[j]?) : RowK k enc 0 w (some a) xs := by
 by_cases h0 : xs.length = 0
 ·exact .inl h0
 ·have hp : 0 < xs.length := by omega
  have h1 := h 0 hp 0 hk
  rw [Nat.zero_mul, Nat.zero_add] at h1
  have h2 : a.add 0 = a := by unfold Addr.add; rw [if_pos rfl]
  rw [h2, List.getElem?_eq_getElem (by rw [henc]; exact hk)] at h1
  have hs := spot_none h1
  have hlt := World.block_lt_of_cell? _ _ h1
  obtain ⟨b, o, s⟩ := a
  simp only [Addr.mk.injEq, true_and] at hs
  subst hs
  refine .inr ⟨b, o, rfl, Nat.zero_le _, hlt, fun i hi j hj => ?_⟩
  have := h i hi j hj
  rw [Lib.add_plain] at this
  rw [Nat.add_assoc]
  exact this

theorem trod_struct4 {t : TypeId} {f0 f1 f2 f3 : Field} {fuel : Nat} {cs : List Value} {x : DataW H × List MemPlace} (ht : P.underlying t = some (.struct #[f0, f1, f2, f3])) (h : DataW.trod enc P w base spare held fuel t cs = some x) :
  ∃ y0 y1 y2 y3 n, cs.length = P.cellsOf t ∧ DataW.trod enc P w base spare held n f0.type ((cs.drop f0.offset).take (P.cellsOf f0.type)) = some y0 ∧ DataW.trod enc P w base spare held n f1.type ((cs.drop f1.offset).take (P.cellsOf f1.type)) = some y1 ∧
   DataW.trod enc P w base spare held n f2.type ((cs.drop f2.offset).take (P.cellsOf f2.type)) = some y2 ∧ DataW.trod enc P w base spare held n f3.type ((cs.drop f3.offset).take (P.cellsOf f3.type)) = some y3 := by
 obtain ⟨xs, n, _, rfl, hl, hlen, hf⟩ := DataW.trod_struct ht h
 match xs, hlen with
 | [y0, y1, y2, y3], _ => exact ⟨y0, y1, y2, y3, n, hl, by simpa using hf 0 f0 rfl, by simpa using hf 1 f1 rfl, by simpa using hf 2 f2 rfl, by simpa using hf 3 f3 rfl⟩

theorem strs_slice {t e : TypeId} {fuel : Nat} {cs : List Value} {x : DataW H × List MemPlace} (ht : P.underlying t = some (.slice e)) (he : P.underlying e = some .string) (hc : P.cellsOf e = 1)
  (h : DataW.trod enc P w base spare held fuel t cs = some x) : ∃ v ss, cs = [v] ∧ SliceK 1 encS 0 w v ss ∧ StrsOk ss := by
 rcases open_strs ht he hc h with ⟨rfl, -⟩ | ⟨a, len, cap, m, Sx, rfl, -, hl, hm, hmm, -, hx⟩
 ·exact ⟨_, [], rfl, ⟨none, 0, rfl, Nat.le_refl _, by omega, .inl rfl⟩, fun s hs => by cases hs⟩
 ·have hlm : len ≤ m := by rw [hmm]; split <;> omega
  refine ⟨_, (List.range len).map Sx, rfl, ⟨some a, cap, by simp, by simpa using hl, by simpa [maxLen] using hm, rowK_of (by decide) encS_len fun i hi j hj => ?_⟩, fun s hs => ?_⟩
  ·obtain rfl : j = 0 := by omega
   have hi' : i < len := by simpa using hi
   rw [Nat.mul_one, Nat.add_zero, (hx i (by omega)).1]
   simp [encS]
  ·obtain ⟨i, hi, rfl⟩ := List.mem_map.1 hs
   have := (hx i (by have := List.mem_range.1 hi; omega)).2
   simpa [maxLen] using this

theorem edges_slice {t e u : TypeId} {f0 f1 f2 : Field} {fuel : Nat} {cs : List Value} {x : DataW H × List MemPlace} (ht : P.underlying t = some (.slice e)) (he : P.underlying e = some (.struct #[f0, f1, f2])) (hu : P.underlying u = some (.int .i64)) (ce : P.cellsOf e = 3) (cu : P.cellsOf u = 1)
  (t0 : f0.type = u) (t1 : f1.type = u) (t2 : f2.type = u) (o0 : f0.offset = 0) (o1 : f1.offset = 1) (o2 : f2.offset = 2)
  (h : DataW.trod enc P w base spare held fuel t cs = some x) : ∃ v es, cs = [v] ∧ SliceK 3 encE 0 w v es := by
 rcases open_slice ht h with ⟨rfl, -⟩ | ⟨a, len, cap, m, n, D, Pl, rfl, -, hl, hm, hmm, -, hx⟩
 ·exact ⟨_, [], rfl, ⟨none, 0, rfl, Nat.le_refl _, by omega, .inl rfl⟩⟩
 ·have hlm : len ≤ m := by rw [hmm]; split <;> omega
  have each : ∀ i, i < len → ∃ e : Edge, ∀ j, j < 3 → w.cell? (a.add (i * 3 + j)) = (encE e)[j]? := by
   intro i hi
   obtain ⟨cs', h1, h2⟩ := hx i (by omega)
   rw [ce] at h1
   obtain ⟨_, hlen, hcell⟩ := World.cells?_some h1
   obtain ⟨y0, y1, y2, k, -, hl3, g0, g1, g2⟩ := trod_struct3 he h2
   rw [t0, o0, cu] at g0
   rw [t1, o1, cu] at g1
   rw [t2, o2, cu] at g2
   obtain ⟨n0, e0, -, -⟩ := DataW.trod_int hu g0
   obtain ⟨n1, e1, -, -⟩ := DataW.trod_int hu g1
   obtain ⟨n2, e2, -, -⟩ := DataW.trod_int hu g2
   match cs', hlen, e0, e1, e2, hcell with
   | [c0, c1, c2], _, e0, e1, e2, hcell =>
    simp at e0 e1 e2
    subst e0 e1 e2
    refine ⟨⟨n0, n1, n2⟩, fun j hj => ?_⟩
    have := hcell j hj
    rw [add_add] at this
    exact this
  obtain ⟨q, hq⟩ := choose_lt each
  refine ⟨_, (List.range len).map q, rfl, ⟨some a, cap, by simp, by simpa using hl, by simpa [maxLen] using hm, rowK_of (by decide) encE_len fun i hi j hj => ?_⟩⟩
  have hi' : i < len := by simpa using hi
  rw [hq i hi' j hj]
  simp
end

end Go.Proofs.YtjoacldbgnphkaaGreatDoor

namespace Go.Proofs.YtjoacldbgnphkaaGreatDoor
open Go Go.RowKit Go.ChangeMaps Go.MapKept
open Go.Maps (Keyed)

/-- The block of a map whose i-th key leads to i. -/
def NumMap (q : IntKind) (w : World) (b : Nat) (ks : List Value) : Prop := w.heap[b]? = some (.map (ks.mapIdx fun i k => (⟨k, .int q i, i⟩ : MapEntry)).toArray ks.length)

theorem NumMap.made (q : IntKind) (w : World) : NumMap q (w.alloc (.map #[] 0)) w.heap.size [] := (MapKept.heap_alloc w _).1

theorem NumMap.kept {q : IntKind} {w w' : World} {b : Nat} {ks : List Value} {row : Option Nat} (h : NumMap q w b ks) (hg : w.grownBy w' row) (hne : some b ≠ row) : NumMap q w' b ks :=
 (hg.block b (Array.getElem?_eq_some_iff.1 h).1 hne).trans h

theorem NumMap.below {q : IntKind} {w w' : World} {b : Nat} {ks : List Value} (h : NumMap q w b ks) (hb : Below w.heap.size w w') : NumMap q w' b ks :=
 (hb.block b (Array.getElem?_eq_some_iff.1 h).1).trans h

theorem entry_key {q : IntKind} {ks : List Value} {e : MapEntry} (h : e ∈ (ks.mapIdx fun i k => (⟨k, .int q i, i⟩ : MapEntry)).toArray.toList) : e.key ∈ ks := by
 simp only [List.mem_mapIdx] at h
 obtain ⟨i, hi, rfl⟩ := h
 exact List.getElem_mem hi

theorem nodup_get {α : Type} {l : List α} (hd : l.Nodup) {i j : Nat} (hi : i < l.length) (hj : j < l.length) (h : l[i] = l[j]) : i = j := by
 have hp := List.pairwise_iff_getElem.1 hd
 rcases Nat.lt_trichotomy i j with h1 | h1 | h1
 ·exact absurd h (hp i j hi hj h1)
 ·exact h1
 ·exact absurd h.symm (hp j i hj hi h1)

section
variable {P : Program} {k t e : TypeId} {q : IntKind} {w : World} {b : Nat} {ks : List Value}

theorem NumMap.found (h : NumMap q w b ks) (K : Keyed P k) (ht : P.underlying t = some (.map k e)) (hks : ∀ v ∈ ks, ∃ l, keyOf P k v = some l) (hd : ks.Nodup) {i : Nat} (hi : i < ks.length) :
  (Instr.lookup t (.map (some b)) ks[i] true).run P w = .ok (.tuple #[.int q i, .bool true]) w := by
 obtain ⟨kl, hkey⟩ := hks _ (List.getElem_mem hi)
 rcases K.find w hkey (ks.mapIdx fun i k => (⟨k, .int q i, i⟩ : MapEntry)).toArray.toList (fun x hx => hks _ (entry_key hx)) with ⟨_, h2⟩ | ⟨j, e0, h1, h2, h3⟩
 ·exfalso
  refine h2 ⟨ks[i], .int q i, i⟩ ?_ rfl
  simp only [List.mem_mapIdx]
  exact ⟨i, hi, rfl⟩
 ·simp only [List.getElem?_mapIdx, Option.map_eq_some_iff] at h2
  obtain ⟨k', hk', rfl⟩ := h2
  obtain ⟨hj, hk'⟩ := List.getElem?_eq_some_iff.1 hk'
  simp only at h3
  have e1 : j = i := nodup_get hd hj hi (hk'.trans h3)
  subst e1
  have hb : w.heap[b]? = some (.map (ks.mapIdx fun i k => (⟨k, .int q i, i⟩ : MapEntry)).toArray ks.length) := h
  simp only at h1
  simp [Instr.lookup, run_underlying ht, MapKept.run_getObj_map hb, K.check w _ hkey, h1, Result.andThen]

theorem NumMap.missing (h : NumMap q w b ks) (K : Keyed P k) (ht : P.underlying t = some (.map k e)) (hks : ∀ v ∈ ks, ∃ l, keyOf P k v = some l) (hz : (zeroValue e).run P w = .ok (.int q 0) w) {key : Value} {kl : Lit} (hkey : keyOf P k key = some kl) (hn : key ∉ ks) :
  (Instr.lookup t (.map (some b)) key true).run P w = .ok (.tuple #[.int q 0, .bool false]) w := by
 rcases K.find w hkey (ks.mapIdx fun i k => (⟨k, .int q i, i⟩ : MapEntry)).toArray.toList (fun x hx => hks _ (entry_key hx)) with ⟨h1, _⟩ | ⟨j, e0, _, h2, h3⟩
 ·have hb : w.heap[b]? = some (.map (ks.mapIdx fun i k => (⟨k, .int q i, i⟩ : MapEntry)).toArray ks.length) := h
  simp only at h1
  simp [Instr.lookup, run_underlying ht, MapKept.run_getObj_map hb, K.check w _ hkey, h1, hz, Result.andThen]
 ·exact absurd (h3 ▸ entry_key (List.mem_of_getElem? h2)) hn

theorem NumMap.store (h : NumMap q w b ks) (K : Keyed P k) (ht : P.underlying t = some (.map k e)) (hks : ∀ v ∈ ks, ∃ l, keyOf P k v = some l) {key : Value} {kl : Lit} (hkey : keyOf P k key = some kl) (hn : key ∉ ks) (hroom : ks.length < maxLen) :
  ∃ w', (Instr.mapUpdate t (.map (some b)) key (.int q ks.length)).run P w = .ok () w' ∧ NumMap q w' b (ks ++ [key]) ∧ w.grownBy w' (some b) := by
 have hb : w.heap[b]? = some (.map (ks.mapIdx fun i k => (⟨k, .int q i, i⟩ : MapEntry)).toArray ks.length) := h
 have e1 : ((ks ++ [key]).mapIdx fun i k => (⟨k, .int q i, i⟩ : MapEntry)).toArray = (ks.mapIdx fun i k => (⟨k, .int q i, i⟩ : MapEntry)).toArray.push ⟨key, .int q ks.length, ks.length⟩ := by
  rw [List.mapIdx_append]
  simp
 rcases K.find w hkey (ks.mapIdx fun i k => (⟨k, .int q i, i⟩ : MapEntry)).toArray.toList (fun x hx => hks _ (entry_key hx)) with ⟨h1, _⟩ | ⟨j, e0, _, h2, h3⟩
 ·refine ⟨setBlock w b (.map ((ks.mapIdx fun i k => (⟨k, .int q i, i⟩ : MapEntry)).toArray.push ⟨key, .int q ks.length, ks.length⟩) (ks.length + 1)), ?_, ?_, ?_⟩
  ·simp only at h1
   have hr : ks.length < 9223372036854775807 := hroom
   simp [Instr.mapUpdate, run_underlying ht, MapKept.run_getObj_map hb, K.check w false hkey, h1, MapKept.run_setObj_map _ hb, Result.andThen, setBlock]
  ·unfold NumMap
   rw [e1, List.length_append, List.length_singleton]
   exact heap_setBlock_same hb _
  ·exact ⟨rfl, rfl, rfl, by simp [setBlock], fun i _ hi => heap_setBlock_other hb _ (fun e => hi (by rw [e]))⟩
 ·exact absurd (h3 ▸ entry_key (List.mem_of_getElem? h2)) hn

end
end Go.Proofs.YtjoacldbgnphkaaGreatDoor

namespace Go.Proofs.YtjoacldbgnphkaaGreatDoor
open Go Go.RowKit Go.ChangeMaps Go.MapKept
open Go.Maps (Keyed)

def entV (ks : List (Value × Value)) : Array MapEntry := (ks.mapIdx fun i k => (⟨k.1, k.2, i⟩ : MapEntry)).toArray
/-- The block of a map whose keys lead to values. -/
def ValMap (w : World) (b : Nat) (ks : List (Value × Value)) : Prop := w.heap[b]? = some (.map (entV ks) ks.length)
theorem ValMap.made (w : World) : ValMap (w.alloc (.map #[] 0)) w.heap.size [] := (MapKept.heap_alloc w _).1
theorem ValMap.lt {w : World} {b : Nat} {ks : List (Value × Value)} (h : ValMap w b ks) : b < w.heap.size := (Array.getElem?_eq_some_iff.1 h).1
theorem ValMap.kept {w w' : World} {b : Nat} {ks : List (Value × Value)} {row : Option Nat} (h : ValMap w b ks) (hg : w.grownBy w' row) (hne : some b ≠ row) : ValMap w' b ks := (hg.block b h.lt hne).trans h
theorem ValMap.below {w w' : World} {b : Nat} {ks : List (Value × Value)} (h : ValMap w b ks) (hb : Below w.heap.size w w') : ValMap w' b ks := (hb.block b h.lt).trans h
theorem entV_key {ks : List (Value × Value)} {e : MapEntry} (h : e ∈ (entV ks).toList) : ∃ i, ∃ hi : i < ks.length, e = ⟨ks[i].1, ks[i].2, i⟩ := by
 unfold entV at h
 simp only [List.mem_mapIdx] at h
 obtain ⟨i, hi, rfl⟩ := h
 exact ⟨i, hi, rfl⟩
theorem entV_mem {ks : List (Value × Value)} {e : MapEntry} (h : e ∈ (entV ks).toList) : e.key ∈ ks.map Prod.fst := by
 obtain ⟨i, hi, rfl⟩ := entV_key h
 exact List.mem_map.2 ⟨_, List.getElem_mem hi, rfl⟩
theorem entV_push (ks : List (Value × Value)) (key v : Value) : entV (ks ++ [(key, v)]) = (entV ks).push ⟨key, v, ks.length⟩ := by
 unfold entV
 rw [List.mapIdx_append]
 simp

section
variable {P : Program} {k t e : TypeId} {w : World} {b : Nat} {ks : List (Value × Value)}

theorem ValMap.found (h : ValMap w b ks) (K : Keyed P k) (ht : P.underlying t = some (.map k e)) (hks : ∀ v ∈ ks.map Prod.fst, ∃ l, keyOf P k v = some l) (hd : (ks.map Prod.fst).Nodup) {i : Nat} (hi : i < ks.length) :
  (Instr.lookup t (.map (some b)) ks[i].1 true).run P w = .ok (.tuple #[ks[i].2, .bool true]) w := by
 obtain ⟨kl, hkey⟩ := hks _ (List.mem_map.2 ⟨_, List.getElem_mem hi, rfl⟩)
 rcases K.find w hkey (entV ks).toList (fun x hx => hks _ (entV_mem hx)) with ⟨_, h2⟩ | ⟨j, e0, h1, h2, h3⟩
 ·exfalso
  refine h2 ⟨ks[i].1, ks[i].2, i⟩ ?_ rfl
  unfold entV
  simp only [List.mem_mapIdx]
  exact ⟨i, hi, rfl⟩
 ·unfold entV at h2
  simp only [List.getElem?_mapIdx, Option.map_eq_some_iff] at h2
  obtain ⟨k', hk', rfl⟩ := h2
  obtain ⟨hj, hk'⟩ := List.getElem?_eq_some_iff.1 hk'
  simp only at h3
  have e1 : j = i := by
   refine nodup_get hd (by simpa using hj) (by simpa using hi) ?_
   rw [List.getElem_map, List.getElem_map, hk']
   exact h3
  subst e1
  have hb : w.heap[b]? = some (.map (entV ks) ks.length) := h
  simp only at h1
  rw [← hk'] at h1
  simp [Instr.lookup, run_underlying ht, MapKept.run_getObj_map hb, K.check w _ hkey, h1, Result.andThen]

theorem ValMap.missing (h : ValMap w b ks) (K : Keyed P k) (ht : P.underlying t = some (.map k e)) (hks : ∀ v ∈ ks.map Prod.fst, ∃ l, keyOf P k v = some l) {z : Value} (hz : (zeroValue e).run P w = .ok z w) {key : Value} {kl : Lit} (hkey : keyOf P k key = some kl) (hn : key ∉ ks.map Prod.fst) :
  (Instr.lookup t (.map (some b)) key true).run P w = .ok (.tuple #[z, .bool false]) w := by
 rcases K.find w hkey (entV ks).toList (fun x hx => hks _ (entV_mem hx)) with ⟨h1, _⟩ | ⟨j, e0, _, h2, h3⟩
 ·have hb : w.heap[b]? = some (.map (entV ks) ks.length) := h
  simp [Instr.lookup, run_underlying ht, MapKept.run_getObj_map hb, K.check w _ hkey, h1, hz, Result.andThen]
 ·exact absurd (h3 ▸ entV_mem (List.mem_of_getElem? h2)) hn

theorem ValMap.store (h : ValMap w b ks) (K : Keyed P k) (ht : P.underlying t = some (.map k e)) (hks : ∀ v ∈ ks.map Prod.fst, ∃ l, keyOf P k v = some l) {key : Value} {kl : Lit} (hkey : keyOf P k key = some kl) (hn : key ∉ ks.map Prod.fst) (hroom : ks.length < maxLen) (v : Value) :
  ∃ w', (Instr.mapUpdate t (.map (some b)) key v).run P w = .ok () w' ∧ ValMap w' b (ks ++ [(key, v)]) ∧ w.grownBy w' (some b) := by
 have hb : w.heap[b]? = some (.map (entV ks) ks.length) := h
 rcases K.find w hkey (entV ks).toList (fun x hx => hks _ (entV_mem hx)) with ⟨h1, _⟩ | ⟨j, e0, _, h2, h3⟩
 ·refine ⟨setBlock w b (.map ((entV ks).push ⟨key, v, ks.length⟩) (ks.length + 1)), ?_, ?_, ?_⟩
  ·have hr : ks.length < 9223372036854775807 := hroom
   simp [Instr.mapUpdate, run_underlying ht, MapKept.run_getObj_map hb, K.check w false hkey, h1, MapKept.run_setObj_map _ hb, Result.andThen, setBlock]
  ·unfold ValMap
   rw [entV_push, List.length_append, List.length_singleton]
   exact heap_setBlock_same hb _
  ·exact ⟨rfl, rfl, rfl, by simp [setBlock], fun i _ hi => heap_setBlock_other hb _ (fun e => hi (by rw [e]))⟩
 ·exact absurd (h3 ▸ entV_mem (List.mem_of_getElem? h2)) hn

end
end Go.Proofs.YtjoacldbgnphkaaGreatDoor

namespace Go.Proofs.YtjoacldbgnphkaaGreatDoor
open Go Go.RowKit
open Go.Maps (Keyed)


def key2 (q : Int × Int) : Value := .agg #[.int .i64 q.1, .int .i64 q.2]
theorem key2_inj {a b : Int × Int} (h : key2 a = key2 b) : a = b := by
 obtain ⟨x, y⟩ := a
 obtain ⟨u, v⟩ := b
 simpa [key2] using h
theorem laidOut2 : laidOutB Tryz.prog = true := by kernel_rfl
theorem row2Ok : (104 : TypeId) < Tryz.prog.types.size := of_decide_eq_true (by kernel_rfl)
theorem wide2 : (match Tryz.prog.underlying 104 with | some (.array _ _) | some (.struct _) => true | _ => false) = true := by rw [Tryz.underlying104]
set_option maxRecDepth 100000 in
theorem law2 : WideMaps.KeyLaw Tryz.prog 104 := deep_law_laid laidOut2 (m := 2) (by omega) row2Ok (by kernel_rfl) wide2
theorem keyed2 : Keyed Tryz.prog 104 := Keyed.of_law law2
theorem cells2Ok : Tryz.prog.cellsOf 104 = 2 := by kernel_rfl
theorem cellsI2 : Tryz.prog.cellsOf 2 = 1 := by kernel_rfl
theorem keyType2 : Tryz.prog.keyType 104 = true := by kernel_rfl
theorem wf_small2 {n : Int} (h0 : 0 ≤ n) (h1 : n < 40) : (Lit.int .i64 n).wf = true := by
 have h2 : IntKind.i64.min = -9223372036854775808 := by decide
 have h3 : IntKind.i64.max = 9223372036854775807 := by decide
 show (decide (IntKind.i64.min ≤ n) && decide (n ≤ IntKind.i64.max)) = true
 rw [h2, h3, decide_eq_true (by omega), decide_eq_true (by omega)]
 rfl
/-- A pair of small numbers. -/
def Small2 (q : Int × Int) : Prop := (0 ≤ q.1 ∧ q.1 < 40) ∧ 0 ≤ q.2 ∧ q.2 < 40
set_option maxRecDepth 100000 in
theorem keyOf2 {q : Int × Int} (h : Small2 q) : ∃ l, keyOf Tryz.prog 104 (key2 q) = some l := by
 obtain ⟨⟨a0, a1⟩, b0, b1⟩ := h
 have wa := wf_small2 a0 a1
 have wb := wf_small2 b0 b1
 obtain ⟨m, hm⟩ : ∃ m, Tryz.prog.types.size = m + 1 := ⟨_, Nat.succ_pred_eq_of_pos (Nat.lt_of_le_of_lt (Nat.zero_le _) row2Ok) |>.symm⟩
 refine ⟨.string (keyBytes [.int .i64 q.1, .int .i64 q.2]), ?_⟩
 unfold keyOf key2
 simp only [Tryz.underlying104]
 rw [if_pos (by simp [keyType2, Value.formed, Tryz.underlying104, cells2Ok]), hm]
 unfold Program.keyLits
 simp only [Tryz.underlying104, Value.cells]
 rw [if_pos (by rw [cells2Ok]; rfl), show List.range 2 = [0, 1] from rfl, List.mapM_cons, List.mapM_cons, List.mapM_nil]
 simp [cellsI2, Program.keyLits, Tryz.underlying2, wa, wb]

theorem mem_key2 {ps : List (Int × Int)} {q : Int × Int} : key2 q ∈ ps.map key2 ↔ q ∈ ps := by
 constructor
 ·intro h
  obtain ⟨r, hr, e⟩ := List.mem_map.1 h
  rw [← key2_inj e]
  exact hr
 ·exact fun h => List.mem_map.2 ⟨q, h, rfl⟩
end Go.Proofs.YtjoacldbgnphkaaGreatDoor

namespace Go.Proofs.YtjoacldbgnphkaaGreatDoor
open Go Go.RowKit

/-- The first place of an item, or the length. -/
def fstIx {α : Type} [DecidableEq α] : List α → α → Nat
 | [], _ => 0
 | y :: l, x => if y = x then 0 else fstIx l x + 1
theorem fstIx_le {α : Type} [DecidableEq α] : ∀ (l : List α) (x : α), fstIx l x ≤ l.length
 | [], _ => Nat.le_refl _
 | y :: l, x => by
  unfold fstIx
  split
  ·exact Nat.zero_le _
  ·exact Nat.succ_le_succ (fstIx_le l x)
theorem fstIx_lt {α : Type} [DecidableEq α] : ∀ {l : List α} {x : α}, x ∈ l → fstIx l x < l.length
 | [], _, h => by cases h
 | y :: l, x, h => by
  unfold fstIx
  split
  ·exact Nat.succ_pos _
  ·next hn =>
   rcases List.mem_cons.1 h with e | e
   ·exact absurd e.symm hn
   ·exact Nat.succ_lt_succ (fstIx_lt e)
theorem fstIx_not {α : Type} [DecidableEq α] : ∀ {l : List α} {x : α}, x ∉ l → fstIx l x = l.length
 | [], _, _ => rfl
 | y :: l, x, h => by
  have h1 : ¬ y = x := fun e => h (by rw [e]; exact List.mem_cons_self ..)
  unfold fstIx
  rw [if_neg h1, fstIx_not fun k => h (List.mem_cons_of_mem _ k)]
  rfl
theorem fstIx_get {α : Type} [DecidableEq α] : ∀ {l : List α} {x : α}, x ∈ l → l[fstIx l x]? = some x
 | [], _, h => by cases h
 | y :: l, x, h => by
  unfold fstIx
  by_cases e : y = x
  ·rw [if_pos e, e]; rfl
  ·rw [if_neg e]
   rcases List.mem_cons.1 h with k | k
   ·exact absurd k.symm e
   ·exact fstIx_get k
theorem fstIx_first {α : Type} [DecidableEq α] : ∀ {l : List α} {x : α} {j : Nat}, j < fstIx l x → l[j]? ≠ some x
 | [], _, j, h => by simp
 | y :: l, x, j, h => by
  unfold fstIx at h
  by_cases e : y = x
  ·rw [if_pos e] at h; cases h
  ·rw [if_neg e] at h
   cases j with
   | zero => simpa using e
   | succ j => exact fstIx_first (l := l) (Nat.lt_of_succ_lt_succ h)
theorem fstIx_eq {α : Type} [DecidableEq α] {l : List α} {x : α} {i : Nat} (h : l[i]? = some x) (hf : ∀ j, j < i → l[j]? ≠ some x) : fstIx l x = i := by
 have h1 := fstIx_get (List.mem_of_getElem? h)
 rcases Nat.lt_trichotomy (fstIx l x) i with k | k | k
 ·exact absurd h1 (hf _ k)
 ·exact k
 ·exact absurd h (fstIx_first k)
theorem fstIx_append {α : Type} [DecidableEq α] {l m : List α} {x : α} (h : x ∈ l) : fstIx (l ++ m) x = fstIx l x := by
 have h1 := fstIx_lt h
 refine fstIx_eq ?_ fun j hj => ?_
 ·rw [List.getElem?_append_left h1]; exact fstIx_get h
 ·rw [List.getElem?_append_left (by omega)]; exact fstIx_first hj
theorem fstIx_inj {α : Type} [DecidableEq α] {l : List α} {x y : α} (hx : x ∈ l) (hy : y ∈ l) (h : fstIx l x = fstIx l y) : x = y := by
 have h1 := fstIx_get hx
 rw [h, fstIx_get hy] at h1
 exact (Option.some.inj h1).symm

/-- The first places of the items. -/
def firstIx {α : Type} [DecidableEq α] (l : List α) : List Int := l.map fun x => (fstIx l x : Int)
theorem firstIx_len {α : Type} [DecidableEq α] (l : List α) : (firstIx l).length = l.length := by simp [firstIx]
theorem firstIx_at {α : Type} [DecidableEq α] {l : List α} {i : Nat} (h : i < l.length) : (firstIx l)[i]? = some (fstIx l l[i] : Int) := by
 unfold firstIx; rw [List.getElem?_map, List.getElem?_eq_getElem h]; rfl
theorem firstIx_same {α β : Type} [DecidableEq α] [DecidableEq β] {l : List α} {m : List β} (hn : l.length = m.length) (h : ∀ i j (hi : i < l.length) (hj : j < l.length), l[i] = l[j] ↔ m[i]'(by omega) = m[j]'(by omega)) : firstIx l = firstIx m := by
 refine List.ext_getElem? fun i => ?_
 by_cases hi : i < l.length
 ·rw [firstIx_at hi, firstIx_at (show i < m.length by omega)]
  have h1 := fstIx_get (List.getElem_mem hi)
  have hlt := fstIx_lt (List.getElem_mem hi)
  have e : fstIx m (m[i]'(by omega)) = fstIx l l[i] := by
   refine fstIx_eq ?_ fun j hj hk => ?_
   ·rw [List.getElem?_eq_getElem (show fstIx l l[i] < m.length by omega)]
    rw [List.getElem?_eq_getElem hlt] at h1
    exact congrArg some ((h _ _ hlt hi).1 (Option.some.inj h1))
   ·have hj2 : j < l.length := by omega
    rw [List.getElem?_eq_getElem (show j < m.length by omega)] at hk
    have := (h _ _ hj2 hi).2 (Option.some.inj hk)
    exact fstIx_first hj (by rw [List.getElem?_eq_getElem hj2, this])
  rw [e]
 ·rw [List.getElem?_eq_none (by rw [firstIx_len]; omega), List.getElem?_eq_none (by rw [firstIx_len]; omega)]

/-- The items in the order of their first sight. -/
def addNew (acc : List Int) (x : Int) : List Int := if x ∈ acc then acc else acc ++ [x]
def firsts (l : List Int) : List Int := l.foldl addNew []
theorem firsts_snoc (l : List Int) (x : Int) : firsts (l ++ [x]) = addNew (firsts l) x := by unfold firsts; rw [List.foldl_append]; rfl
theorem fold_grows : ∀ (m acc : List Int), ∃ t, m.foldl addNew acc = acc ++ t
 | [], acc => ⟨[], by simp⟩
 | x :: m, acc => by
  obtain ⟨t, ht⟩ := fold_grows m (addNew acc x)
  have : ∃ s, addNew acc x = acc ++ s := by
   unfold addNew
   by_cases h : x ∈ acc
   ·rw [if_pos h]; exact ⟨[], by simp⟩
   ·rw [if_neg h]; exact ⟨[x], rfl⟩
  obtain ⟨s, hs⟩ := this
  refine ⟨s ++ t, ?_⟩
  rw [List.foldl_cons, ht, hs, List.append_assoc]
theorem firsts_append (l m : List Int) : ∃ t, firsts (l ++ m) = firsts l ++ t := by
 unfold firsts; rw [List.foldl_append]; exact fold_grows m _
theorem firsts_mem : ∀ (l : List Int) (x : Int), x ∈ firsts l ↔ x ∈ l := by
 have h : ∀ (m acc : List Int) (x : Int), x ∈ m.foldl addNew acc ↔ x ∈ acc ∨ x ∈ m := by
  intro m
  induction m with
  | nil => intro acc x; simp
  | cons y m ih =>
   intro acc x
   rw [List.foldl_cons, ih]
   have : x ∈ addNew acc y ↔ x ∈ acc ∨ x = y := by
    unfold addNew
    by_cases h : y ∈ acc
    ·rw [if_pos h]
     exact ⟨.inl, fun k => k.elim id fun e => e ▸ h⟩
    ·rw [if_neg h, List.mem_append, List.mem_singleton]
   rw [this, List.mem_cons, or_assoc]
 intro l x
 unfold firsts
 rw [h]
 simp
theorem firsts_len : ∀ (l : List Int), (firsts l).length ≤ l.length := by
 have h : ∀ (m acc : List Int), (m.foldl addNew acc).length ≤ acc.length + m.length := by
  intro m
  induction m with
  | nil => intro acc; simp
  | cons y m ih =>
   intro acc
   rw [List.foldl_cons]
   refine Nat.le_trans (ih _) ?_
   have : (addNew acc y).length ≤ acc.length + 1 := by
    unfold addNew
    by_cases h : y ∈ acc
    ·rw [if_pos h]; omega
    ·rw [if_neg h]; simp
   rw [List.length_cons]; omega
 intro l
 have := h l []
 unfold firsts
 simpa using this
/-- Numbers by first sight. -/
def normL (l : List Int) : List Int := l.map fun x => (fstIx (firsts l) x : Int)
theorem normL_len (l : List Int) : (normL l).length = l.length := by simp [normL]
theorem normL_get {l : List Int} {i : Nat} (h : i < l.length) : (normL l)[i]? = some (fstIx (firsts l) l[i] : Int) := by
 unfold normL; rw [List.getElem?_map, List.getElem?_eq_getElem h]; rfl
theorem normL_at {l : List Int} {i : Nat} (h : i < l.length) : (normL l)[i]? = some (fstIx (firsts (l.take i)) l[i] : Int) := by
 rw [normL_get h]
 have e : l = (l.take i ++ [l[i]]) ++ l.drop (i + 1) := by
  rw [List.append_assoc, List.singleton_append, ← List.drop_eq_getElem_cons h, List.take_append_drop]
 obtain ⟨t, ht⟩ := firsts_append (l.take i ++ [l[i]]) (l.drop (i + 1))
 rw [← e] at ht
 have hm : l[i] ∈ firsts (l.take i ++ [l[i]]) := (firsts_mem _ _).2 (List.mem_append.2 (.inr (List.mem_singleton.2 rfl)))
 rw [ht, fstIx_append hm, firsts_snoc]
 unfold addNew
 by_cases hx : l[i] ∈ firsts (l.take i)
 ·rw [if_pos hx]
 ·rw [if_neg hx, fstIx_not hx]
  congr 2
  refine fstIx_eq ?_ fun j hj hk => ?_
  ·simp
  ·rw [List.getElem?_append_left hj] at hk
   exact hx (List.mem_of_getElem? hk)
theorem normL_range {l : List Int} {x : Int} (h : x ∈ normL l) : 0 ≤ x ∧ x < (l.length : Int) := by
 obtain ⟨y, hy, rfl⟩ := List.mem_map.1 h
 have h1 := fstIx_lt ((firsts_mem l y).2 hy)
 have h2 := firsts_len l
 omega
theorem normL_same {l : List Int} {i j : Nat} (hi : i < l.length) (hj : j < l.length) : (normL l)[i]'(by rw [normL_len]; exact hi) = (normL l)[j]'(by rw [normL_len]; exact hj) ↔ l[i] = l[j] := by
 have h1 := normL_get hi
 have h2 := normL_get hj
 rw [List.getElem?_eq_getElem (by rw [normL_len]; exact hi)] at h1
 rw [List.getElem?_eq_getElem (by rw [normL_len]; exact hj)] at h2
 rw [Option.some.inj h1, Option.some.inj h2]
 constructor
 ·intro h
  exact fstIx_inj ((firsts_mem _ _).2 (List.getElem_mem hi)) ((firsts_mem _ _).2 (List.getElem_mem hj)) (by omega)
 ·intro h; rw [h]
theorem firstIx_pat {α : Type} [DecidableEq α] {l : List α} {i j : Nat} (hi : i < l.length) (hj : j < l.length) : (firstIx l)[i]'(by rw [firstIx_len]; exact hi) = (firstIx l)[j]'(by rw [firstIx_len]; exact hj) ↔ l[i] = l[j] := by
 have h1 := firstIx_at hi
 have h2 := firstIx_at hj
 rw [List.getElem?_eq_getElem (by rw [firstIx_len]; exact hi)] at h1
 rw [List.getElem?_eq_getElem (by rw [firstIx_len]; exact hj)] at h2
 rw [Option.some.inj h1, Option.some.inj h2]
 constructor
 ·intro h
  exact fstIx_inj (List.getElem_mem hi) (List.getElem_mem hj) (by omega)
 ·intro h; rw [h]
/-- The blocks of equal items. -/
def blocksL {α : Type} [DecidableEq α] (l : List α) : List Int := normL (firstIx l)
theorem blocksL_len {α : Type} [DecidableEq α] (l : List α) : (blocksL l).length = l.length := by unfold blocksL; rw [normL_len, firstIx_len]
theorem blocksL_pat {α : Type} [DecidableEq α] {l : List α} {i j : Nat} (hi : i < l.length) (hj : j < l.length) : (blocksL l)[i]'(by rw [blocksL_len]; exact hi) = (blocksL l)[j]'(by rw [blocksL_len]; exact hj) ↔ l[i] = l[j] := by
 unfold blocksL
 rw [normL_same (by rw [firstIx_len]; exact hi) (by rw [firstIx_len]; exact hj), firstIx_pat hi hj]
theorem blocksL_same {α β : Type} [DecidableEq α] [DecidableEq β] {l : List α} {m : List β} (hn : l.length = m.length) (h : ∀ i j (hi : i < l.length) (hj : j < l.length), l[i] = l[j] ↔ m[i]'(by omega) = m[j]'(by omega)) : blocksL l = blocksL m := by
 unfold blocksL; rw [firstIx_same hn h]
theorem blocksL_range {α : Type} [DecidableEq α] {l : List α} {x : Int} (h : x ∈ blocksL l) : 0 ≤ x ∧ x < (l.length : Int) := by
 have := normL_range h
 rwa [firstIx_len] at this
theorem normL_zeros (n : Nat) : normL (List.replicate n (0 : Int)) = List.replicate n 0 := by
 refine List.ext_getElem? fun i => ?_
 by_cases hi : i < n
 ·rw [normL_at (by simpa using hi)]
  rw [List.getElem?_replicate, if_pos hi]
  congr 1
  have : ∀ m : List Int, (∀ x ∈ m, x = 0) → fstIx (firsts m) 0 = 0 := fun m hm => by
   cases h : firsts m with
   | nil => rfl
   | cons y t =>
    have : y = 0 := hm y ((firsts_mem m y).1 (by rw [h]; exact List.mem_cons_self ..))
    unfold fstIx
    rw [if_pos this]
  rw [List.getElem_replicate, this]
  ·rfl
  ·intro x hx
   exact (List.mem_replicate.1 (List.mem_of_mem_take hx)).2
 ·rw [List.getElem?_eq_none (by rw [normL_len]; simpa using hi), List.getElem?_eq_none (by simpa using hi)]

theorem getD_eq {p : List Int} {i : Nat} (h : i < p.length) : p.getD i 0 = p[i] := by rw [List.getD_eq_getElem?_getD, List.getElem?_eq_getElem h]; rfl
theorem filter_less {p q : Nat → Bool} : ∀ (l : List Nat), (∀ x ∈ l, p x = true → q x = true) → (l.filter p).length ≤ (l.filter q).length
 | [], _ => Nat.le_refl _
 | x :: l, h => by
  have ih := filter_less l fun y hy => h y (List.mem_cons_of_mem _ hy)
  have h0 := h x (List.mem_cons_self ..)
  rw [List.filter_cons, List.filter_cons]
  cases hp : p x
  ·cases hq : q x
   ·exact ih
   ·exact Nat.le_succ_of_le ih
  ·rw [hp] at h0; rw [h0 rfl]; exact Nat.succ_le_succ ih
theorem filter_lt {p q : Nat → Bool} : ∀ (l : List Nat), (∀ x ∈ l, p x = true → q x = true) → (∃ x ∈ l, p x = false ∧ q x = true) → (l.filter p).length < (l.filter q).length
 | [], _, ⟨_, h, _⟩ => by cases h
 | x :: l, h, ⟨y, hy, h1, h2⟩ => by
  have h0 := h x (List.mem_cons_self ..)
  have ht := fun y hy => h y (List.mem_cons_of_mem x hy)
  have il := filter_less l ht
  rw [List.filter_cons, List.filter_cons]
  rcases List.mem_cons.1 hy with e | e
  ·subst e
   rw [h1, h2]
   exact Nat.lt_succ_of_le il
  ·have ih := filter_lt l ht ⟨y, e, h1, h2⟩
   cases hp : p x
   ·cases hq : q x
    ·exact ih
    ·exact Nat.lt_succ_of_lt ih
   ·rw [hp] at h0; rw [h0 rfl]; exact Nat.succ_lt_succ ih
end Go.Proofs.YtjoacldbgnphkaaGreatDoor
