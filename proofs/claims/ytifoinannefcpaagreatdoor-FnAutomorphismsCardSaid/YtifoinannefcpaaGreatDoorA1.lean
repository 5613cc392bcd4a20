/-
  Plain notions for the proofs of this seat: how slices, labelled transition systems and their edges lie in memory, and how such facts are carried from one world to a later one.
  An argument of a system's type, opened: what its reading says of the cells behind it.
  The source of choices: its state in memory, and what its methods draw: numbers below the bound, and nothing else turns.
  An argument that is a list of bytes, opened.
  A pile of rows of the call's own, no two in one block; a slice of such rows.
  Lists of texts and lists of such lists of the call's own: how they lie in memory.
  The reference's drawers: names.
-/
import Derived.WalkKit
import Derived.WalkSpells
import Derived.WalkLawsBesides
import Derived.Lib.Hide
import Derived.BigQuiet
import Derived.Deep.QuietTactic
import Derived.Deep.LoopGhost
import Derived.ProofKit
import Derived.Lib.ItoaMem
import Derived.OpenShut
import Derived.Deep.Strs
import Derived.Deep.Slices
import Derived.Test.YtifoinannefcpaaGreatDoorProg
import Derived.ChangeSlices
import Derived.Deep.AppendLies
import Derived.Sort.LoopGhostIn
namespace Go.Proofs.YtifoinannefcpaaGreatDoor
open Go Go.RowKit

structure Edge where
 src : Int
 lab : Int
 dst : Int
 deriving DecidableEq

structure Lts where
 states : Int
 initial : Int
 labels : List ByteArray
 edges : List Edge

/-- The elements xs of a slice with the address a lie in one block, from lo on, each in k cells. -/
def RowK {α : Type} (k : Nat) (enc : α → List Value) (lo : Nat) (w : World) (a : Option Addr) (xs : List α) : Prop :=
 xs.length = 0 ∨ ∃ b off, a = some ⟨b, off, none⟩ ∧ lo ≤ b ∧ b < w.heap.size ∧ ∀ i (h : i < xs.length) j, j < k → w.cell? ⟨b, off + i * k + j, none⟩ = (enc xs[i])[j]?

/-- A slice's value that holds the elements xs. -/
def SliceK {α : Type} (k : Nat) (enc : α → List Value) (lo : Nat) (w : World) (v : Value) (xs : List α) : Prop :=
 ∃ a cap, v = .slice a xs.length cap ∧ xs.length ≤ cap ∧ cap ≤ 9223372036854775807 ∧ RowK k enc lo w a xs

theorem RowK.below {α : Type} {k : Nat} {enc : α → List Value} {lo : Nat} {w w' : World} {a : Option Addr} {xs : List α} (h : RowK k enc lo w a xs) (hb : Below w.heap.size w w') : RowK k enc lo w' a xs := by
 rcases h with h | ⟨b, off, ha, h1, h2, h3⟩
 ·exact .inl h
 ·exact .inr ⟨b, off, ha, h1, Nat.lt_of_lt_of_le h2 hb.size, fun i hi j hj => by rw [hb.cell h2]; exact h3 i hi j hj⟩

theorem SliceK.below {α : Type} {k : Nat} {enc : α → List Value} {lo : Nat} {w w' : World} {v : Value} {xs : List α} (h : SliceK k enc lo w v xs) (hb : Below w.heap.size w w') : SliceK k enc lo w' v xs := by
 obtain ⟨a, cap, h1, h2, h4, h3⟩ := h
 exact ⟨a, cap, h1, h2, h4, h3.below hb⟩

theorem RowK.mono {α : Type} {k : Nat} {enc : α → List Value} {lo lo' : Nat} {w : World} {a : Option Addr} {xs : List α} (h : RowK k enc lo w a xs) (hl : lo' ≤ lo) : RowK k enc lo' w a xs := by
 rcases h with h | ⟨b, off, ha, h1, h2, h3⟩
 ·exact .inl h
 ·exact .inr ⟨b, off, ha, Nat.le_trans hl h1, h2, h3⟩

theorem SliceK.mono {α : Type} {k : Nat} {enc : α → List Value} {lo lo' : Nat} {w : World} {v : Value} {xs : List α} (h : SliceK k enc lo w v xs) (hl : lo' ≤ lo) : SliceK k enc lo' w v xs := by
 obtain ⟨a, cap, h1, h2, h4, h3⟩ := h
 exact ⟨a, cap, h1, h2, h4, h3.mono hl⟩

/-- An element's one cell. -/
def encI (n : Int) : List Value := [.int .i64 n]
def encS (s : ByteArray) : List Value := [.string s]
def encE (e : Edge) : List Value := [.int .i64 e.src, .int .i64 e.lab, .int .i64 e.dst]
def encV (v : Value) : List Value := [v]

theorem RowK.one {α : Type} {enc : α → List Value} {lo : Nat} {w : World} {a : Option Addr} {xs : List α} (h : RowK 1 enc lo w a xs) {i : Nat} (hi : i < xs.length) :
  ∃ b off, a = some ⟨b, off, none⟩ ∧ lo ≤ b ∧ b < w.heap.size ∧ w.cell? ⟨b, off + i, none⟩ = (enc xs[i])[0]? := by
 rcases h with h | ⟨b, off, ha, h1, h2, h3⟩
 ·omega
 ·exact ⟨b, off, ha, h1, h2, by have := h3 i hi 0 (by omega); simpa using this⟩

theorem RowK.edge {lo : Nat} {w : World} {a : Option Addr} {xs : List Edge} (h : RowK 3 encE lo w a xs) {i : Nat} (hi : i < xs.length) :
  ∃ b off, a = some ⟨b, off, none⟩ ∧ lo ≤ b ∧ b < w.heap.size ∧ w.cell? ⟨b, off + i * 3, none⟩ = some (.int .i64 xs[i].src) ∧ w.cell? ⟨b, off + i * 3 + 1, none⟩ = some (.int .i64 xs[i].lab) ∧ w.cell? ⟨b, off + i * 3 + 2, none⟩ = some (.int .i64 xs[i].dst) := by
 rcases h with h | ⟨b, off, ha, h1, h2, h3⟩
 ·omega
 ·exact ⟨b, off, ha, h1, h2, by have := h3 i hi 0 (by omega); simpa [encE] using this, by have := h3 i hi 1 (by omega); simpa [encE] using this, by have := h3 i hi 2 (by omega); simpa [encE] using this⟩

/-- A cell of an old block, later. -/
theorem keeps {B : Nat} {w w' : World} (h : Below B w w') {b o : Nat} {v : Value} (hb : b < B) (hc : w.cell? ⟨b, o, none⟩ = some v) : w'.cell? ⟨b, o, none⟩ = some v :=
 (h.cell (p := ⟨b, o, none⟩) hb).trans hc

theorem both {W w1 : World} (hb : Below W.heap.size W w1) : (∀ b o, b < W.heap.size → w1.cell? ⟨b, o, none⟩ = W.cell? ⟨b, o, none⟩) ∧ (∀ b o, b < W.heap.size → w1.frozen? ⟨b, o, none⟩ = W.frozen? ⟨b, o, none⟩) :=
 ⟨fun b o h => hb.cell (p := ⟨b, o, none⟩) h, fun b o h => hb.frozen (p := ⟨b, o, none⟩) h⟩

theorem ret_int {k : IntKind} {a b : Int} (h : a = b) : Ending.returned (.int k a) = .returned (.int k b) := by rw [h]
theorem ret_bool {a b : Bool} (h : a = b) : Ending.returned (.bool a) = .returned (.bool b) := by rw [h]

/-- The value of a system (a struct). -/
def LtsAt (lo : Nat) (w : World) (v : Value) (t : Lts) : Prop :=
 ∃ lv ev, v = .agg #[.int .i64 t.states, .int .i64 t.initial, lv, ev] ∧ SliceK 1 encS lo w lv t.labels ∧ SliceK 3 encE lo w ev t.edges

theorem LtsAt.below {lo : Nat} {w w' : World} {v : Value} {t : Lts} (h : LtsAt lo w v t) (hb : Below w.heap.size w w') : LtsAt lo w' v t := by
 obtain ⟨lv, ev, h1, h2, h3⟩ := h
 exact ⟨lv, ev, h1, h2.below hb, h3.below hb⟩

/-- A slice of slices of numbers. -/
def IntssAt (lo : Nat) (w : World) (v : Value) (xss : List (List Int)) : Prop :=
 ∃ vs : List Value, vs.length = xss.length ∧ SliceK 1 encV lo w v vs ∧ ∀ i (h : i < vs.length) (h' : i < xss.length), SliceK 1 encI lo w vs[i] xss[i]

theorem IntssAt.below {lo : Nat} {w w' : World} {v : Value} {xss : List (List Int)} (h : IntssAt lo w v xss) (hb : Below w.heap.size w w') : IntssAt lo w' v xss := by
 obtain ⟨vs, h1, h2, h3⟩ := h
 exact ⟨vs, h1, h2.below hb, fun i hi hi' => (h3 i hi hi').below hb⟩

theorem drews {B : Nat} {a w : World} (h : Below B a w) (n : Nat) : Below B a (w.drewN n) := ⟨h.os, h.tape, h.output, h.size, h.block⟩

/-- A later world: what was there when the heap was that of w0 is as it was. -/
structure Later (w0 : World) where
 w : World
 h : Below w0.heap.size w0 w

instance (w : World) : Nonempty (Later w) := ⟨⟨w, Below.refl _ _⟩⟩

/-- A region that draws its order and whose operations read, or call functions that turn nothing that was there: walked once. -/
theorem wp_region_later {P : Program} {id : Nat} {Q : Exit → Act → World → Prop} {a : Act} {w : World} {l : List Oper} (hm : P.follows .mixedOrders = true) (hB : Region.lexB .any l.toArray = true)
  (h : wpQuiet P l.toArray (fun w' => ∃ g : Later w, w' = g.w) (fun a' => ∀ w', (∃ g : Later w, w' = g.w) → Q .normal a' w') l a) : (Code.region id l.toArray true).wp P Q a w :=
 wp_region_quiet (C := fun w' => ∃ g : Later w, w' = g.w) hm hB ⟨⟨_, (Below.refl _ w).drew⟩, rfl⟩ (by simpa using h)

theorem later_call {P : Program} {f : FuncId} {args : Array Value} {w0 : World} {g : Later w0} {v : Value}
  (h : Calls P f args g.w fun e w' => e = .returned v ∧ Below g.w.heap.size g.w w') : Calls P f args g.w fun e w'' => e = .returned v ∧ ∃ g' : Later w0, w'' = g'.w :=
 h.mono fun _ w' ⟨he, hb⟩ => ⟨he, ⟨⟨w', g.h.trans (hb.mono g.h.size)⟩, rfl⟩⟩

theorem later_same {P : Program} {f : FuncId} {args : Array Value} {w0 : World} {g : Later w0} {v : Value}
  (h : Calls P f args g.w fun e w' => e = .returned v ∧ g.w = w') : Calls P f args g.w fun e w'' => e = .returned v ∧ ∃ g' : Later w0, w'' = g'.w :=
 h.mono fun _ _ ⟨he, hb⟩ => ⟨he, ⟨g, hb.symm⟩⟩

/-- A fact on an old cell, in every later world. -/
theorem later_cell {w0 : World} {b o : Nat} {v : Value} (hb : b < w0.heap.size) (hc : w0.cell? ⟨b, o, none⟩ = some v) : ∀ g : Later w0, g.w.cell? ⟨b, o, none⟩ = some v :=
 fun g => keeps g.h hb hc

/-- A row of the call's own reads as a slice. -/
theorem SliceK.of_owns {α : Type} {k : Nat} {enc : α → List Value} (hk : ∀ x, (enc x).length = k) {lo e : Nat} {w : World} {v : Value} {n : Nat} {xs : List α} (hn : n = xs.length) (h : w.ownsRow lo e k v n (xs.flatMap enc)) : SliceK k enc lo w v xs := by
 subst hn
 obtain ⟨h0, ⟨rfl, h1⟩ | ⟨g, cap, cur, rfl, hg, hh, hc, hm, hs, ht⟩⟩ := h
 ·exact ⟨none, 0, by rw [h1], by omega, by omega, .inl h1⟩
 ·refine ⟨_, _, rfl, hc, by simpa [maxLen] using hm, .inr ⟨g, 0, rfl, hg, (Array.getElem?_eq_some_iff.1 hh).1, fun i hi j hj => ?_⟩⟩
  have hlt : i * k + j < xs.length * k := by
   have := Nat.mul_le_mul_right k (Nat.succ_le_of_lt hi)
   rw [Nat.succ_mul] at this
   omega
  have e1 : w.cell? ⟨g, i * k + j, none⟩ = (xs.flatMap enc)[i * k + j]? := by
   rw [cell_of_row w g _ cur e (0, 0) hh, ← ht, List.getElem?_take, if_pos hlt]
   simp
  rw [Nat.zero_add, e1]
  clear e1 hlt ht hs h0
  induction xs generalizing i with
  | nil => simp at hi
  | cons x r ih =>
   rw [List.flatMap_cons]
   cases i with
   | zero => rw [Nat.zero_mul, Nat.zero_add, List.getElem?_append_left (by rw [hk]; exact hj)]; rfl
   | succ i =>
    rw [List.getElem?_append_right (by rw [hk, Nat.succ_mul]; omega), hk, show (i + 1) * k + j - k = i * k + j from by rw [Nat.succ_mul]; omega]
    exact ih (by simp at hc ⊢; omega) _ (by simpa using hi)

theorem encI_len (n : Int) : (encI n).length = 1 := rfl
theorem encS_len (n : ByteArray) : (encS n).length = 1 := rfl
theorem encV_len (n : Value) : (encV n).length = 1 := rfl
theorem encE_len (n : Edge) : (encE n).length = 3 := rfl

/-- A slice that lies elsewhere than the row that was written. -/
theorem SliceK.grown {α : Type} {k : Nat} {enc : α → List Value} {lo : Nat} {w w' : World} {row : Option Nat} {v : Value} {xs : List α} (h : SliceK k enc lo w v xs) (hg : w.grownBy w' row) (hne : ∀ k, row = some k → k < lo) : SliceK k enc lo w' v xs := by
 obtain ⟨a, cap, h1, h2, h4, h3⟩ := h
 refine ⟨a, cap, h1, h2, h4, ?_⟩
 rcases h3 with h | ⟨b, off, ha, h1, h2, h3⟩
 ·exact .inl h
 ·exact .inr ⟨b, off, ha, h1, Nat.lt_of_lt_of_le h2 hg.size, fun i hi j hj => by
   rw [World.cell?_of_block (w := w) (hg.block b h2 (fun e => by have := hne b e.symm; omega))]; exact h3 i hi j hj⟩

theorem filled_set {α : Type} (xs : List α) (f : α → Value) (z : Value) (k : Nat) (h : k < xs.length) :
  ((xs.take k).map f ++ List.replicate (xs.length - k) z).set k (f xs[k]) = (xs.take (k + 1)).map f ++ List.replicate (xs.length - (k + 1)) z := by
 have hl : ((xs.take k).map f).length = k := by simp; omega
 rw [show xs.length - k = (xs.length - (k + 1)) + 1 from by omega, List.replicate_succ, List.set_append_right _ _ (by omega), hl, Nat.sub_self, List.set_cons_zero,
  List.take_succ_eq_append_getElem h, List.map_append, List.append_assoc]
 rfl

theorem filled_get {α : Type} (xs : List α) (f : α → Value) (z : Value) (k : Nat) (h : k < xs.length) :
  ((xs.take k).map f ++ List.replicate (xs.length - k) z)[k]? = some z := by
 have hl : ((xs.take k).map f).length = k := by simp; omega
 rw [List.getElem?_append_right (by omega), hl, Nat.sub_self, List.getElem?_replicate, if_pos (by omega)]

theorem owns_below {w w' : World} {base e size n : Nat} {v : Value} {xs : List Value} (h : w.ownsRow base e size v n xs) (hb : Below w.heap.size w w') : w'.ownsRow base e size v n xs :=
 h.kept (row := none) ⟨hb.os, hb.tape, hb.output, hb.size, fun k hk _ => hb.block k hk⟩ (by cases v.ownBlock <;> simp)

theorem grown_setCell (w : World) (p : Addr) (u : Value) : w.grownBy (w.setCell p u) (some p.block) :=
 ⟨rfl, rfl, rfl, by simp, fun k _ hk => Go.RowKit.Below.heap_setCell w p u k (fun h => hk (by rw [h]))⟩

/-- A block known whole. -/
def Blk (w : World) (b : Nat) (cs : List Value) (t : TypeId) : Prop := w.heap[b]? = some (.cells cs.toArray t (0, 0))

theorem Blk.lt {w : World} {b : Nat} {cs : List Value} {t : TypeId} (h : Blk w b cs t) : b < w.heap.size := (Array.getElem?_eq_some_iff.1 h).1
theorem Blk.cell {w : World} {b : Nat} {cs : List Value} {t : TypeId} (h : Blk w b cs t) (i : Nat) {v : Value} (hi : cs[i]? = some v) : w.cell? ⟨b, i, none⟩ = some v := by
 rw [cell_of_row w b i _ t (0, 0) h]; simpa using hi
theorem Blk.frozen {w : World} {b : Nat} {cs : List Value} {t : TypeId} (h : Blk w b cs t) (i : Nat) : w.frozen? ⟨b, i, none⟩ = false := frozen_of_row w b i _ t h
theorem Blk.below {w w' : World} {b : Nat} {cs : List Value} {t : TypeId} (h : Blk w b cs t) (hb : Below w.heap.size w w') : Blk w' b cs t := (hb.block b h.lt).trans h
theorem Blk.belowB {B : Nat} {w w' : World} {b : Nat} {cs : List Value} {t : TypeId} (h : Blk w b cs t) (hb : Below B w w') (hB : b < B) : Blk w' b cs t := (hb.block b hB).trans h
theorem Blk.set {w : World} {b : Nat} {cs : List Value} {t : TypeId} (h : Blk w b cs t) (i : Nat) (v : Value) : Blk (w.setCell ⟨b, i, none⟩ v) b (cs.set i v) t := by
 have := heap_setCell_same w b i _ t v h
 unfold Blk
 rw [this]
 simp
theorem Blk.setOther {w : World} {b : Nat} {cs : List Value} {t : TypeId} (h : Blk w b cs t) (p : Addr) (v : Value) (hp : b ≠ p.block) : Blk (w.setCell p v) b cs t := (heap_setCell_other w p b v hp).trans h
theorem Blk.new (w : World) (cs : List Value) (t : TypeId) : Blk (w.alloc (.cells cs.toArray t)) w.heap.size cs t := heap_alloc_new w _
theorem Blk.alloc {w : World} {b : Nat} {cs : List Value} {t : TypeId} (h : Blk w b cs t) (o : Obj) : Blk (w.alloc o) b cs t := (Go.RowKit.Below.heap_alloc w o b h.lt).trans h

theorem grown_refl (w : World) (row : Option Nat) : w.grownBy w row := ⟨rfl, rfl, rfl, Nat.le_refl _, fun _ _ _ => rfl⟩
theorem grown_trans {a b c : World} {row : Option Nat} (h : a.grownBy b row) (k : b.grownBy c row) : a.grownBy c row :=
 ⟨k.os.trans h.os, k.tape.trans h.tape, k.output.trans h.output, Nat.le_trans h.size k.size, fun i hi hn => (k.block i (Nat.lt_of_lt_of_le hi h.size) hn).trans (h.block i hi hn)⟩
theorem grown_below {w w' : World} (hb : Below w.heap.size w w') (row : Option Nat) : w.grownBy w' row := ⟨hb.os, hb.tape, hb.output, hb.size, fun k hk _ => hb.block k hk⟩
theorem flat_encV (vs : List Value) : vs.flatMap encV = vs := by
 induction vs with
 | nil => rfl
 | cons a r ih => simp [encV, ih]
theorem flat_encI (xs : List Int) : xs.flatMap encI = xs.map (Value.int .i64) := by
 induction xs with
 | nil => rfl
 | cons a r ih => simp [encI, ih]
theorem flat_encS (xs : List ByteArray) : xs.flatMap encS = xs.map Value.string := by
 induction xs with
 | nil => rfl
 | cons a r ih => simp [encS, ih]

/-- A slice of slices of numbers, all in memory of the call's own, no two rows in one block. -/
def OwnIntss (eo ei lo : Nat) (w : World) (v : Value) (vs : List Value) (xss : List (List Int)) : Prop :=
 vs.length = xss.length ∧ w.ownsRow lo eo 1 v vs.length vs ∧ (∀ (i : Nat) (h : i < vs.length) (h' : i < xss.length), w.ownsRow lo ei 1 vs[i] xss[i].length (xss[i].map (Value.int .i64)))
  ∧ (∀ (i j : Nat) (h : i < vs.length) (h' : j < vs.length), i ≠ j → vs[i].ownBlock = none ∨ vs[i].ownBlock ≠ vs[j].ownBlock)
  ∧ (∀ (i : Nat) (h : i < vs.length), vs[i].ownBlock = none ∨ vs[i].ownBlock ≠ v.ownBlock)

theorem OwnIntss.below {eo ei lo : Nat} {w w' : World} {v : Value} {vs : List Value} {xss : List (List Int)} (h : OwnIntss eo ei lo w v vs xss) (hb : Below w.heap.size w w') : OwnIntss eo ei lo w' v vs xss := by
 obtain ⟨h1, h2, h3, h4, h5⟩ := h
 exact ⟨h1, owns_below h2 hb, fun i hi hi' => owns_below (h3 i hi hi') hb, h4, h5⟩

/-- One row is written. -/
theorem OwnIntss.row {eo ei lo : Nat} {w w' : World} {v : Value} {vs : List Value} {xss : List (List Int)} (h : OwnIntss eo ei lo w v vs xss) (j : Nat) (hj : j < vs.length) (ys : List Int)
  (hg : w.grownBy w' vs[j].ownBlock) (ho : w'.ownsRow lo ei 1 vs[j] ys.length (ys.map (Value.int .i64))) : OwnIntss eo ei lo w' v vs (xss.set j ys) := by
 obtain ⟨h1, h2, h3, h4, h5⟩ := h
 refine ⟨by simpa using h1, h2.kept hg ?_, fun i hi hi' => ?_, h4, h5⟩
 ·rcases h5 j hj with h | h
  ·cases hv : v.ownBlock with
   | none => exact .inl rfl
   | some b => exact .inr (by rw [h]; simp)
  ·exact .inr (fun e => h e.symm)
 ·by_cases hij : j = i
  ·subst hij
   simpa using ho
  ·rw [List.getElem_set_ne hij]
   refine (h3 i hi (by simpa using hi')).kept hg ?_
   exact h4 i j hi hj (fun e => hij e.symm)

theorem OwnIntss.at {eo ei lo : Nat} {w : World} {v : Value} {vs : List Value} {xss : List (List Int)} (h : OwnIntss eo ei lo w v vs xss) : IntssAt lo w v xss := by
 obtain ⟨h1, h2, h3, -, -⟩ := h
 refine ⟨vs, h1, SliceK.of_owns encV_len rfl (by rw [flat_encV]; exact h2), fun i hi hi' => ?_⟩
 exact SliceK.of_owns (e := ei) encI_len rfl (by rw [flat_encI]; exact h3 i hi hi')

theorem own_cell {w : World} {base e size g n cap : Nat} {xs : List Value} (h : w.ownsRow base e size (.slice (some ⟨g, 0, none⟩) n cap) n xs) (j : Nat) (hj : j < n * size) : ∃ v, w.cell? ⟨g, j, none⟩ = some v :=
 ⟨xs[j]'(by rw [h.1]; exact hj), by rw [h.cellAt j hj]; exact List.getElem?_eq_getElem _⟩

theorem owns_slice {w : World} {base e size n : Nat} {v : Value} {xs : List Value} (h : w.ownsRow base e size v n xs) : ∃ a c, v = .slice a n c ∧ n ≤ c ∧ c ≤ 9223372036854775807 := by
 rcases h.2 with ⟨rfl, rfl⟩ | ⟨g, cap, cur, rfl, -, -, h1, h2, -⟩
 ·exact ⟨none, 0, rfl, Nat.le_refl _, by omega⟩
 ·exact ⟨_, _, rfl, h1, by simpa [maxLen] using h2⟩

theorem own_lower {w : World} {base base' e size n : Nat} {v : Value} {xs : List Value} (h : w.ownsRow base e size v n xs) (hb : base' ≤ base) : w.ownsRow base' e size v n xs := by
 obtain ⟨h0, h | ⟨g, cap, cur, h1, h2, rest⟩⟩ := h
 ·exact ⟨h0, .inl h⟩
 ·exact ⟨h0, .inr ⟨g, cap, cur, h1, Nat.le_trans hb h2, rest⟩⟩

theorem own_types {w : World} {b1 b2 e1 e2 s1 s2 n1 n2 : Nat} {v1 v2 : Value} {x1 x2 : List Value} (h1 : w.ownsRow b1 e1 s1 v1 n1 x1) (h2 : w.ownsRow b2 e2 s2 v2 n2 x2) (he : e1 ≠ e2) : v1.ownBlock = none ∨ v1.ownBlock ≠ v2.ownBlock := by
 rcases h1.2 with ⟨rfl, -⟩ | ⟨g1, c1, u1, rfl, -, hg1, -⟩
 ·exact .inl rfl
 ·refine .inr fun e => ?_
  rcases h2.2 with ⟨rfl, -⟩ | ⟨g2, c2, u2, rfl, -, hg2, -⟩
  ·simp [Value.ownBlock] at e
  ·simp only [Value.ownBlock, Option.some.injEq] at e
   subst e
   rw [hg1] at hg2
   simp only [Option.some.injEq, Obj.cells.injEq] at hg2
   exact he hg2.2.1

/-- One row more, which lies behind all that was there. -/
theorem OwnIntss.push {eo ei lo B : Nat} {w0 w w' : World} {v v' rv : Value} {vs : List Value} {xss : List (List Int)} {xs : List Int} (he : eo ≠ ei) (h : OwnIntss eo ei lo w0 v vs xss) (hB : w0.heap.size ≤ B)
  (hb : Below w0.heap.size w0 w) (hr : w.ownsRow B ei 1 rv xs.length (xs.map (Value.int .i64))) (hlo : lo ≤ B)
  (hg : w.grownBy w' v.ownBlock) (hv : w'.ownsRow lo eo 1 v' (vs.length + 1) (vs ++ [rv])) : OwnIntss eo ei lo w' v' (vs ++ [rv]) (xss ++ [xs]) := by
 obtain ⟨h1, h2, h3, h4, h5⟩ := h
 have k2 := owns_below h2 hb
 have hrow : ∀ (i : Nat) (h : i < vs.length) (h' : i < xss.length), w'.ownsRow lo ei 1 vs[i] xss[i].length (xss[i].map (Value.int .i64)) := fun i hi hi' =>
  (owns_below (h3 i hi hi') hb).kept hg (h5 i hi)
 have hnew : w'.ownsRow lo ei 1 rv xs.length (xs.map (Value.int .i64)) := (own_lower hr hlo).kept hg (own_types hr k2 (fun e => he e.symm))
 have hall : ∀ (i : Nat) (h : i < (vs ++ [rv]).length) (h' : i < (xss ++ [xs]).length), w'.ownsRow lo ei 1 (vs ++ [rv])[i] (xss ++ [xs])[i].length ((xss ++ [xs])[i].map (Value.int .i64)) := fun i hi hi' => by
  by_cases hlt : i < vs.length
  ·rw [List.getElem_append_left hlt]
   simp only [List.getElem_append_left (show i < xss.length by omega)]
   exact hrow i hlt (by omega)
  ·have e : i = vs.length := by simp at hi; omega
   subst e
   simp only [List.getElem_concat_length]
   have : (xss ++ [xs])[vs.length] = xs := by simp [h1]
   rw [this]
   exact hnew
 refine ⟨by simp [h1], by simpa using hv, hall, fun i j hi hj hij => ?_, fun i hi => own_types (hall i hi (by simp at hi ⊢; omega)) hv (fun e => he e.symm)⟩
 have hold : ∀ (i : Nat) (h : i < vs.length) b, vs[i].ownBlock = some b → b < w0.heap.size := fun i hi b e => ((h3 i hi (by omega)).lt b e).2
 have hnb : ∀ b, rv.ownBlock = some b → B ≤ b := fun b e => (hr.lt b e).1
 by_cases h1' : i < vs.length <;> by_cases h2' : j < vs.length
 ·rw [List.getElem_append_left h1', List.getElem_append_left h2']
  exact h4 i j h1' h2' hij
 ·have e : j = vs.length := by simp at hj; omega
  subst e
  rw [List.getElem_append_left h1', List.getElem_concat_length rfl]
  cases hb1 : vs[i].ownBlock with
  | none => exact .inl rfl
  | some b => exact .inr fun e => by have := hold i h1' b hb1; have := hnb b e.symm; omega
 ·have e : i = vs.length := by simp at hi; omega
  subst e
  rw [List.getElem_append_left h2', List.getElem_concat_length rfl]
  cases hb1 : rv.ownBlock with
  | none => exact .inl rfl
  | some b => exact .inr fun e => by have := hold j h2' b e.symm; have := hnb b hb1; omega
 ·simp at hi hj; omega

end Go.Proofs.YtifoinannefcpaaGreatDoor

namespace Go.Proofs.YtifoinannefcpaaGreatDoor
open Go Go.ChangeShapes Go.WideShapes Go.ChangeAt Go.RowKit Go.Deep

instance instEdgeOpen : Inhabited Edge := ⟨⟨0, 0, 0⟩⟩

section
variable {H : Type} {enc : TypeId × Value → H} {P : Program} {w : World} {base : Nat} {spare : Nat → Bool} {held : Bool}

theorem spot_none {w : World} {a : Addr} {v : Value} (h : w.cell? a = some v) : a = ⟨a.block, a.off, none⟩ := by
 unfold World.cell? at h
 split at h
 ·split at h
  ·cases h
  ·next hs =>
   obtain ⟨b, o, s⟩ := a
   cases s with
   | none => rfl
   | some x => simp at hs
 ·cases h

end

end Go.Proofs.YtifoinannefcpaaGreatDoor

namespace Go.Proofs.YtifoinannefcpaaGreatDoor
open Go Go.RowKit

/-- Bytes that lie below a block. -/
def BytesIn (B : Nat) (w : World) (v : Value) (bs : List UInt8) : Prop :=
 ∃ (a : Option Addr) (c : Nat), v = .slice a bs.length c ∧ bs.length ≤ 1073741824 ∧ (bs.length = 0 ∨ ∃ b o, a = some ⟨b, o, none⟩ ∧ b < B ∧ b < w.heap.size ∧ ∀ i (h : i < bs.length), w.cell? ⟨b, o + i, none⟩ = some (.int .u8 (bs[i].toNat : Int)))
theorem cell_of_heap {w w' : World} {b o : Nat} (h : w'.heap[b]? = w.heap[b]?) : w'.cell? ⟨b, o, none⟩ = w.cell? ⟨b, o, none⟩ := by
 unfold World.cell?
 rw [h]
theorem BytesIn.grown {B : Nat} {w w' : World} {v : Value} {bs : List UInt8} {row : Option Nat} (h : BytesIn B w v bs) (hg : w.grownBy w' row) (hr : ∀ k, row = some k → B ≤ k) : BytesIn B w' v bs := by
 obtain ⟨a, c, rfl, hl, h0 | ⟨b, o, rfl, hb, hw, hc⟩⟩ := h
 ·exact ⟨a, c, rfl, hl, .inl h0⟩
 ·refine ⟨_, c, rfl, hl, .inr ⟨b, o, rfl, hb, Nat.lt_of_lt_of_le hw hg.size, fun i hi => ?_⟩⟩
  rw [cell_of_heap (hg.block b hw (fun e => by have := hr b e.symm; omega))]
  exact hc i hi
/-- The source: where it stands, at most n. -/
def Src (sb n : Nat) (w : World) : Prop :=
 ∃ (v : Value) (bs : List UInt8) (a : Nat) (sd : Int), BytesIn sb w v bs ∧ Blk w sb [v, .int .i64 a, .int .u64 sd] 58 ∧ a ≤ n ∧ 0 ≤ sd ∧ sd < 18446744073709551616
theorem Src.lt {sb n : Nat} {w : World} (h : Src sb n w) : sb < w.heap.size := by
 obtain ⟨v, bs, a, sd, -, h, -⟩ := h
 exact h.lt
theorem Src.mono {sb n m : Nat} {w : World} (h : Src sb n w) (hm : n ≤ m) : Src sb m w := by
 obtain ⟨v, bs, a, sd, h1, h2, h3, h4⟩ := h
 exact ⟨v, bs, a, sd, h1, h2, Nat.le_trans h3 hm, h4⟩
theorem Src.grown {sb n : Nat} {w w' : World} {row : Option Nat} (h : Src sb n w) (hg : w.grownBy w' row) (hr : ∀ k, row = some k → sb < k) : Src sb n w' := by
 obtain ⟨v, bs, a, sd, h1, h2, h3, h4⟩ := h
 exact ⟨v, bs, a, sd, h1.grown hg (fun k e => Nat.le_of_lt (hr k e)), (hg.block sb h2.lt (fun e => by have := hr sb e.symm; omega)).trans h2, h3, h4⟩
theorem Src.below {sb n : Nat} {w w' : World} (h : Src sb n w) (hb : Below w.heap.size w w') : Src sb n w' := h.grown (grown_below hb none) (fun k e => by cases e)
/-- What a call that draws leaves: the source goes on; nothing else that was there has turned. -/
def Drew (sb n : Nat) (w w' : World) : Prop := w.grownBy w' (some sb) ∧ Src sb n w'
theorem Drew.trans {sb n m : Nat} {w w' w'' : World} (h : Drew sb n w w') (k : Drew sb m w' w'') : Drew sb m w w'' := ⟨grown_trans h.1 k.1, k.2⟩
theorem Drew.below {sb n : Nat} {w w' w'' : World} (h : Drew sb n w w') (hb : Below w'.heap.size w' w'') : Drew sb n w w'' := ⟨grown_trans h.1 (grown_below hb _), h.2.below hb⟩
theorem Drew.refl {sb n : Nat} {w : World} (h : Src sb n w) : Drew sb n w w := ⟨grown_refl _ _, h⟩
theorem Drew.size {sb n : Nat} {w w' : World} (h : Drew sb n w w') : w.heap.size ≤ w'.heap.size := h.1.size
theorem Drew.mono {sb n m : Nat} {w w' : World} (h : Drew sb n w w') (hm : n ≤ m) : Drew sb m w w' := ⟨h.1, h.2.mono hm⟩
theorem Drew.slice {α : Type} {k : Nat} {enc : α → List Value} {sb n lo : Nat} {w w' : World} {v : Value} {xs : List α} (h : Drew sb n w w') (hs : SliceK k enc lo w v xs) (hlo : sb < lo) : SliceK k enc lo w' v xs := hs.grown h.1 (fun j e => by cases e; exact hlo)
theorem Drew.own {sb n base e size m : Nat} {w w' : World} {v : Value} {xs : List Value} (h : Drew sb n w w') (ho : w.ownsRow base e size v m xs) (hlo : sb < base) : w'.ownsRow base e size v m xs := ho.kept h.1 (by
 cases hv : v.ownBlock with
 | none => exact .inl rfl
 | some b => exact .inr fun k => by have := (ho.lt b hv).1; have := Option.some.inj k; omega)
theorem Drew.blk {sb n b : Nat} {w w' : World} {cs : List Value} {t : TypeId} (h : Drew sb n w w') (hb : Blk w b cs t) (hne : b ≠ sb) : Blk w' b cs t := (h.1.block b hb.lt (fun e => hne (Option.some.inj e))).trans hb

theorem Drew.grown {sb n : Nat} {w w1 w2 : World} {row : Option Nat} (h : Drew sb n w w1) (hg : w1.grownBy w2 row) (hr : ∀ k, row = some k → w.heap.size ≤ k) (hsb : sb < w.heap.size) : Drew sb n w w2 :=
 ⟨⟨hg.os.trans h.1.os, hg.tape.trans h.1.tape, hg.output.trans h.1.output, Nat.le_trans h.1.size hg.size, fun k hk hne => (hg.block k (Nat.lt_of_lt_of_le hk h.1.size) (fun e => by have := hr k e.symm; omega)).trans (h.1.block k hk hne)⟩, h.2.grown hg (fun k e => Nat.lt_of_lt_of_le hsb (hr k e))⟩
theorem Drew.alloc {sb n : Nat} {w w1 : World} (h : Drew sb n w w1) (o : Obj) : Drew sb n w (w1.alloc o) := h.below ((Below.refl _ _).alloc (Nat.le_refl _) _)
theorem wrapU64 (x : Int) : 0 ≤ IntKind.u64.wrap x ∧ IntKind.u64.wrap x < 18446744073709551616 := by
 simp [IntKind.wrap, IntKind.bits, IntKind.signed]
 omega

theorem and255 (x : Int) : 0 ≤ wrap64 (bits BinOp.and IntKind.u64 x 255) ∧ wrap64 (bits BinOp.and IntKind.u64 x 255) ≤ 255 := by
 have h : ∃ n : Nat, n ≤ 255 ∧ bits BinOp.and IntKind.u64 x 255 = IntKind.u64.wrap (n : Int) := by
  refine ⟨(BitVec.ofInt IntKind.u64.bits x &&& BitVec.ofInt IntKind.u64.bits 255).toNat, ?_, rfl⟩
  rw [BitVec.toNat_and]
  have h2 : (BitVec.ofInt IntKind.u64.bits 255).toNat = 255 := by decide
  rw [h2]
  exact Nat.and_le_right
 obtain ⟨n, hn, e⟩ := h
 have h2 : IntKind.u64.wrap (n : Int) = n := by
  simp [IntKind.wrap, IntKind.bits, IntKind.signed]
  omega
 rw [e, h2]
 unfold wrap64
 omega

set_option maxRecDepth 100000 in
set_option maxHeartbeats 1000000 in
theorem next_any (sb n : Nat) (w : World) (hs : Src sb n w) (hn : n ≤ 1000000000) :
  Calls Tryz.prog 58 #[.pointer (some ⟨sb, 0, none⟩)] w fun e w' => ∃ x : Int, e = .returned (.int .i64 x) ∧ 0 ≤ x ∧ x ≤ 255 ∧ Drew sb (n + 1) w w' := by
 obtain ⟨v, bs, a, sd, hbi, hblk, ha, hs0, hs1⟩ := hs
 have HBI := Lib.hid hbi
 obtain ⟨ap, c, rfl, hl, hrow⟩ := hbi
 have c0 := hblk.cell 0 rfl
 have c1 := hblk.cell 1 rfl
 have c2 := hblk.cell 2 rfl
 have f1 := hblk.frozen 1
 have f2 := hblk.frozen 2
 have hlt := hblk.lt
 have HB := Lib.hid hblk
 have l0 := later_cell hlt c0
 have l1 := later_cell hlt c1
 have HEND : Hid (∀ (v0 : World) (z : Int), Below w.heap.size w v0 → 0 ≤ z → z < 18446744073709551616 → Drew sb (n + 1) w ((v0.setCell ⟨sb, 1, none⟩ (.int .i64 ((a : Int) + 1))).setCell ⟨sb, 2, none⟩ (.int .u64 z)) ∧ Blk ((v0.setCell ⟨sb, 1, none⟩ (.int .i64 ((a : Int) + 1))).setCell ⟨sb, 2, none⟩ (.int .u64 z)) sb [.slice ap bs.length c, .int .i64 ((a : Int) + 1), .int .u64 z] 58) := by
  intro v0 z hb0 hz0 hz1
  have hb2 : Blk ((v0.setCell ⟨sb, 1, none⟩ (.int .i64 ((a : Int) + 1))).setCell ⟨sb, 2, none⟩ (.int .u64 z)) sb [.slice ap bs.length c, .int .i64 ((a : Int) + 1), .int .u64 z] 58 := (((hblk.below hb0).set 1 (.int .i64 ((a : Int) + 1))).set 2 (.int .u64 z))
  have hg : w.grownBy ((v0.setCell ⟨sb, 1, none⟩ (.int .i64 ((a : Int) + 1))).setCell ⟨sb, 2, none⟩ (.int .u64 z)) (some sb) := grown_trans (grown_below hb0 _) (grown_trans (grown_setCell v0 ⟨sb, 1, none⟩ _) (grown_setCell _ ⟨sb, 2, none⟩ _))
  exact ⟨⟨hg, _, bs, a + 1, z, HBI.out.grown hg (fun k e => by cases e; exact Nat.le_refl _), hb2, by omega, hz0, hz1⟩, hb2⟩
 have HLF : Hid (∀ v0 : World, Below w.heap.size w v0 → (∀ z (g : Later ((v0.setCell ⟨sb, 1, none⟩ (.int .i64 ((a : Int) + 1))).setCell ⟨sb, 2, none⟩ (.int .u64 z))), g.w.cell? ⟨sb, 0, none⟩ = some (.slice ap bs.length c) ∧ g.w.cell? ⟨sb, 1, none⟩ = some (.int .i64 ((a : Int) + 1)) ∧ g.w.cell? ⟨sb, 2, none⟩ = some (.int .u64 z))) := by
  intro v0 hb0 z g
  have hb2 : Blk ((v0.setCell ⟨sb, 1, none⟩ (.int .i64 ((a : Int) + 1))).setCell ⟨sb, 2, none⟩ (.int .u64 z)) sb [.slice ap bs.length c, .int .i64 ((a : Int) + 1), .int .u64 z] 58 := (((hblk.below hb0).set 1 (.int .i64 ((a : Int) + 1))).set 2 (.int .u64 z))
  have hb3 := hb2.below g.h
  exact ⟨hb3.cell 0 rfl, hb3.cell 1 rfl, hb3.cell 2 rfl⟩
 obtain ⟨N, hN⟩ : ∃ N, N = bs.length := ⟨_, rfl⟩
 by_cases h1 : a < N
 ·have h2 : a < bs.length := by omega
  rcases hrow with h0 | ⟨b, o, rfl, hbs, hbw, hc⟩
  ·omega
  have hca := hc a h2
  obtain ⟨y, hy⟩ : ∃ y, y = bs[a].toNat := ⟨_, rfl⟩
  have hy1 : y < 256 := by rw [hy]; exact bs[a].toNat_lt
  rw [← hy] at hca
  rw [← hN] at c0 l0 HEND HB HLF hl
  clear hc hblk hy HBI h2 hN
  have HCA := Lib.hid hca
  go_enter Tryz.func58, Tryz.ntmps58
  go_wp2
  refine wp_region_later (by kernel_rfl) (by kernel_rfl) ?_
  repeat (go_big_quiet_step ((fail)))
  refine wpQuiet_nil ?_
  intro _ hw9
  obtain ⟨nl, hw8⟩ := hw9
  subst hw8
  obtain ⟨w1, hw1⟩ : ∃ w1, w1 = nl.w := ⟨_, rfl⟩
  have hb1 : Below w.heap.size w w1 := by rw [hw1]; exact nl.h
  rw [← hw1]
  clear hw1 nl l0 l1 c0 c1 c2 f1 f2 hca
  have hlt1 : sb < w1.heap.size := Nat.lt_of_lt_of_le hlt hb1.size
  have hbw1 : b < w1.heap.size := Nat.lt_of_lt_of_le hbw hb1.size
  have l0 := later_cell hlt1 ((HB.out.below hb1).cell 0 rfl)
  have l1 := later_cell hlt1 ((HB.out.below hb1).cell 1 rfl)
  have l2 := later_cell hbw1 ((hb1.cell hbw).trans HCA.out)
  go_wp2
  refine wp_region_later (by kernel_rfl) (by kernel_rfl) ?_
  repeat (go_big_quiet_step ((fail)))
  refine wpQuiet_nil ?_
  intro _ hw9
  obtain ⟨nl, hw8⟩ := hw9
  subst hw8
  obtain ⟨w2, hw2⟩ : ∃ w2, w2 = nl.w := ⟨_, rfl⟩
  have hb2 : Below w.heap.size w w2 := by rw [hw2]; exact hb1.trans (nl.h.mono hb1.size)
  rw [← hw2]
  clear hw2 nl l0 l1 l2
  have hlt2 : sb < w2.heap.size := Nat.lt_of_lt_of_le hlt hb2.size
  have c0 := (HB.out.below hb2).cell 0 rfl
  have c1 := (HB.out.below hb2).cell 1 rfl
  have c2 := (HB.out.below hb2).cell 2 rfl
  have f1 := (HB.out.below hb2).frozen 1
  have f2 := (HB.out.below hb2).frozen 2
  have HEN2 := Lib.hid (fun z => HEND.out w2 z hb2)
  have m0 := fun z g => (HLF.out w2 hb2 z g).1
  have m1 := fun z g => (HLF.out w2 hb2 z g).2.1
  clear HEND HLF
  go_wp2
  refine wp_region_later (by kernel_rfl) (by kernel_rfl) ?_
  repeat (go_big_quiet_step ((fail)))
  refine wpQuiet_nil ?_
  intro _ hw9
  obtain ⟨nl, hw8⟩ := hw9
  subst hw8
  clear m0 m1
  go_wp2
  go_ret
  exact ⟨_, rfl, by omega, by omega, (HEN2.out _ (wrapU64 _).1 (wrapU64 _).2).1.below nl.h⟩
 ·rw [← hN] at c0 l0 HEND HB HLF hl
  clear hrow hblk HBI hN
  go_enter Tryz.func58, Tryz.ntmps58
  go_wp2
  refine wp_region_later (by kernel_rfl) (by kernel_rfl) ?_
  repeat (go_big_quiet_step ((fail)))
  refine wpQuiet_nil ?_
  intro _ hw9
  obtain ⟨nl, hw8⟩ := hw9
  subst hw8
  obtain ⟨w2, hw2⟩ : ∃ w2, w2 = nl.w := ⟨_, rfl⟩
  have hb2 : Below w.heap.size w w2 := by rw [hw2]; exact nl.h
  rw [← hw2]
  clear hw2 nl l0 l1 c0 c1 c2 f1 f2
  have hlt2 : sb < w2.heap.size := Nat.lt_of_lt_of_le hlt hb2.size
  have c0 := (HB.out.below hb2).cell 0 rfl
  have c1 := (HB.out.below hb2).cell 1 rfl
  have c2 := (HB.out.below hb2).cell 2 rfl
  have f1 := (HB.out.below hb2).frozen 1
  have f2 := (HB.out.below hb2).frozen 2
  have HEN2 := Lib.hid (fun z => HEND.out w2 z hb2)
  have m0 := fun z g => (HLF.out w2 hb2 z g).1
  have m1 := fun z g => (HLF.out w2 hb2 z g).2.1
  have m2 := fun z g => (HLF.out w2 hb2 z g).2.2
  clear HEND HLF
  go_wp2
  refine wp_region_later (by kernel_rfl) (by kernel_rfl) ?_
  repeat (go_big_quiet_step ((fail)))
  refine wpQuiet_nil ?_
  intro _ hw9
  obtain ⟨nl, hw8⟩ := hw9
  subst hw8
  clear m0 m1
  go_wp2
  go_ret
  exact ⟨_, rfl, (and255 _).1, (and255 _).2, (HEN2.out _ (wrapU64 _).1 (wrapU64 _).2).1.below nl.h⟩

set_option maxRecDepth 100000 in
set_option maxHeartbeats 1000000 in
theorem pick_any (sb n : Nat) (N : Int) (w : World) (hs : Src sb n w) (hn : n ≤ 999999990) (hN : N ≤ 1000000000) :
  Calls Tryz.prog 32 #[.pointer (some ⟨sb, 0, none⟩), .int .i64 N] w fun e w' => ∃ x : Int, e = .returned (.int .i64 x) ∧ 0 ≤ x ∧ (N ≤ 1 → x = 0) ∧ (1 ≤ N → x < N) ∧ Drew sb (n + 2) w w' := by
 have HS := Lib.hid hs
 by_cases h1 : N ≤ 1
 ·clear hs
  go_enter Tryz.func32, Tryz.ntmps32
  go_wp2
  go_ret
  exact ⟨0, rfl, Int.le_refl _, fun _ => rfl, fun h => by omega, Drew.refl (HS.out.mono (by omega))⟩
 ·have HN1 := Lib.hid (next_any sb n w hs (by omega))
  by_cases h2 : 200 < N
  ·clear hs
   go_enter Tryz.func32, Tryz.ntmps32
   go_wp2_with fail
   refine Calls.mono HN1.out ?_
   rintro e w1 ⟨x, rfl, hx0, hx1, hd⟩
   have HD := Lib.hid hd
   have HN2 := Lib.hid (next_any sb (n + 1) w1 hd.2 (by omega))
   clear hd HN1
   go_wp2_with fail
   refine Calls.mono HN2.out ?_
   rintro e w2 ⟨y, rfl, hy0, hy1, hd⟩
   have HD2 := Lib.hid (HD.out.trans hd)
   clear hd HN2
   go_wp2
   go_ret
   exact ⟨_, rfl, Int.emod_nonneg _ (by omega), fun h => by omega, fun _ => Int.emod_lt_of_pos _ (by omega), HD2.out⟩
  ·clear hs
   go_enter Tryz.func32, Tryz.ntmps32
   go_wp2_with fail
   refine Calls.mono HN1.out ?_
   rintro e w1 ⟨x, rfl, hx0, hx1, hd⟩
   have HD := Lib.hid hd
   clear hd HN1
   go_wp2
   go_ret
   exact ⟨_, rfl, Int.emod_nonneg _ (by omega), fun h => by omega, fun _ => Int.emod_lt_of_pos _ (by omega), HD.out.mono (by omega)⟩

theorem one_any (sb n : Nat) (N : Int) (w : World) (hs : Src sb n w) (hn : n ≤ 999999990) (hN : N ≤ 1000000000) :
  Calls Tryz.prog 30 #[.pointer (some ⟨sb, 0, none⟩), .int .i64 N] w fun e w' => ∃ b : Bool, e = .returned (.bool b) ∧ Drew sb (n + 2) w w' := by
 have HP := Lib.hid (pick_any sb n N w hs hn hN)
 clear hs
 go_enter Tryz.func30, Tryz.ntmps30
 go_wp2_with fail
 refine Calls.mono HP.out ?_
 rintro e w1 ⟨x, rfl, hx0, -, -, hd⟩
 have HD := Lib.hid hd
 clear hd HP
 go_wp2
 go_ret
 exact ⟨_, rfl, HD.out⟩

set_option maxHeartbeats 1000000 in
theorem among_any (sb n lo : Nat) (v : Value) (xs : List Int) (w : World) (hs : Src sb n w) (hn : n ≤ 999999990) (hv : SliceK 1 encI lo w v xs) (hlo : sb < lo) (h0 : 0 < xs.length) (hz : xs.length ≤ 1000000) :
  Calls Tryz.prog 38 #[.pointer (some ⟨sb, 0, none⟩), v] w fun e w' => ∃ x ∈ xs, e = .returned (.int .i64 x) ∧ Drew sb (n + 2) w w' := by
 have HP := Lib.hid (pick_any sb n xs.length w hs hn (by omega))
 have HV := Lib.hid hv
 obtain ⟨a, c, rfl, -, -, -⟩ := hv
 obtain ⟨N, hN⟩ : ∃ N, N = xs.length := ⟨_, rfl⟩
 have HNN := Lib.hid hN
 rw [← hN] at HP HV h0 hz ⊢
 clear hs hN
 go_enter Tryz.func38, Tryz.ntmps38
 go_wp2_with fail
 refine Calls.mono HP.out ?_
 rintro e w1 ⟨x, rfl, hx0, -, hxN, hd⟩
 have HD := Lib.hid hd
 have hxl := hxN (by omega)
 obtain ⟨k, rfl⟩ : ∃ k : Nat, x = (k : Int) := ⟨x.toNat, by omega⟩
 have hk : k < xs.length := by rw [← HNN.out]; omega
 obtain ⟨a2, c2, e2, -, -, hrow⟩ := hd.slice HV.out hlo
 simp only [Value.slice.injEq] at e2
 obtain ⟨rfl, -, rfl⟩ := e2
 obtain ⟨b1, o1, rfl, -, hb1, c1⟩ := hrow.one hk
 simp only [encI, List.getElem?_cons_zero] at c1
 obtain ⟨y, hy⟩ : ∃ y, y = xs[k] := ⟨_, rfl⟩
 rw [← hy] at c1
 have HY : Hid (y ∈ xs) := by unfold Hid; rw [hy]; exact List.getElem_mem hk
 clear hd hrow hy hk HP
 go_wp2
 go_ret
 exact ⟨y, HY.out, rfl, HD.out⟩

set_option maxHeartbeats 1000000 in
theorem textOf_any (sb n lo : Nat) (v : Value) (xs : List ByteArray) (w : World) (hs : Src sb n w) (hn : n ≤ 999999990) (hv : SliceK 1 encS lo w v xs) (hlo : sb < lo) (h0 : 0 < xs.length) (hz : xs.length ≤ 1000000) :
  Calls Tryz.prog 75 #[.pointer (some ⟨sb, 0, none⟩), v] w fun e w' => ∃ x ∈ xs, e = .returned (.string x) ∧ Drew sb (n + 2) w w' := by
 have HP := Lib.hid (pick_any sb n xs.length w hs hn (by omega))
 have HV := Lib.hid hv
 obtain ⟨a, c, rfl, -, -, -⟩ := hv
 obtain ⟨N, hN⟩ : ∃ N, N = xs.length := ⟨_, rfl⟩
 have HNN := Lib.hid hN
 rw [← hN] at HP HV h0 hz ⊢
 clear hs hN
 go_enter Tryz.func75, Tryz.ntmps75
 go_wp2_with fail
 refine Calls.mono HP.out ?_
 rintro e w1 ⟨x, rfl, hx0, -, hxN, hd⟩
 have HD := Lib.hid hd
 have hxl := hxN (by omega)
 obtain ⟨k, rfl⟩ : ∃ k : Nat, x = (k : Int) := ⟨x.toNat, by omega⟩
 have hk : k < xs.length := by rw [← HNN.out]; omega
 obtain ⟨a2, c2, e2, -, -, hrow⟩ := hd.slice HV.out hlo
 simp only [Value.slice.injEq] at e2
 obtain ⟨rfl, -, rfl⟩ := e2
 obtain ⟨b1, o1, rfl, -, hb1, c1⟩ := hrow.one hk
 simp only [encS, List.getElem?_cons_zero] at c1
 obtain ⟨y, hy⟩ : ∃ y, y = xs[k] := ⟨_, rfl⟩
 rw [← hy] at c1
 have HY : Hid (y ∈ xs) := by unfold Hid; rw [hy]; exact List.getElem_mem hk
 clear hd hrow hy hk HP
 go_wp2
 go_ret
 exact ⟨y, HY.out, rfl, HD.out⟩

end Go.Proofs.YtifoinannefcpaaGreatDoor

namespace Go.Proofs.YtifoinannefcpaaGreatDoor
open Go Go.ChangeShapes Go.WideShapes Go.ChangeAt Go.RowKit

theorem cellsU : Tryz.prog.cellsOf 5 = 1 := by kernel_rfl
set_option maxRecDepth 100000 in
theorem open_bytesA {H : Type} {enc : TypeId × Value → H} {W : World} {v : Value} {d : DataW H} {ps : List MemPlace} {base : Nat} (hval : Value.okWide Tryz.prog W .any base 22 v) (h : DataW.Trod enc Tryz.prog W 0 (fun _ => true) true 22 v d ps) :
  ∃ (a0 : Option Addr) (N c0 : Nat) (bs : List UInt8), v = .slice a0 N c0 ∧ N = bs.length ∧ (N ≤ 1048576 → BytesIn W.heap.size W (.slice a0 N c0) bs) := by
 obtain ⟨a, len, cap, rfl⟩ := okWide_slice Tryz.underlying22 hval
 obtain ⟨fuel, hf⟩ := h
 rcases Go.ChangeShapes.open_ints Tryz.underlying22 Tryz.underlying5 cellsU hf with ⟨hc, -⟩ | ⟨a1, len1, cap1, zs, hc, -, hl, hm, hzl, -, hcell, hwf⟩
 ·simp [Value.cells] at hc
  obtain ⟨rfl, rfl, rfl⟩ := hc
  exact ⟨none, 0, 0, [], rfl, rfl, fun _ => ⟨none, 0, rfl, by simp, .inl rfl⟩⟩
 ·simp [Value.cells] at hc
  obtain ⟨rfl, rfl, rfl⟩ := hc
  have hz : zs.length = cap := by simpa using hzl
  have hlen : ((zs.take len).map fun z => UInt8.ofNat z.toNat).length = len := by
   rw [List.length_map, List.length_take]
   omega
  refine ⟨_, len, cap, (zs.take len).map fun z => UInt8.ofNat z.toNat, rfl, hlen.symm, fun hN => ?_⟩
  refine ⟨_, cap, by rw [hlen], by rw [hlen]; omega, ?_⟩
  by_cases h0 : len = 0
  ·exact .inl (by rw [hlen]; exact h0)
  ·have h1 := hcell 0 (by omega)
   have h2 : a1.add 0 = a1 := by unfold Addr.add; rw [if_pos rfl]
   rw [h2] at h1
   have hs := spot_none h1
   have hlt := World.block_lt_of_cell? _ _ h1
   obtain ⟨b, o, s⟩ := a1
   simp only [Addr.mk.injEq, true_and] at hs
   subst hs
   refine .inr ⟨b, o, rfl, hlt, hlt, fun i hi => ?_⟩
   rw [hlen] at hi
   have h3 := hcell i (by omega)
   rw [Lib.add_plain] at h3
   rw [h3]
   have hi2 : i < zs.length := by omega
   have hb := Go.bounds_u8 (hwf zs[i] (List.getElem_mem hi2))
   have hg : zs.getD i 0 = zs[i] := by rw [List.getD_eq_getElem?_getD, List.getElem?_eq_getElem hi2]; rfl
   rw [hg]
   congr 2
   rw [List.getElem_map, List.getElem_take]
   have : zs[i].toNat < 256 := by omega
   rw [UInt8.toNat_ofNat_of_lt' (by simpa using this)]
   omega

end Go.Proofs.YtifoinannefcpaaGreatDoor

namespace Go.Proofs.YtifoinannefcpaaGreatDoor
open Go Go.RowKit

/-- Rows of the call's own, no two in one block. -/
structure Pile (ei lo : Nat) (w : World) (vs : List Value) (css : List (List Value)) : Prop where
 len : vs.length = css.length
 row : ∀ (i : Nat) (h : i < vs.length) (h' : i < css.length), w.ownsRow lo ei 1 vs[i] css[i].length css[i]
 far : ∀ (i j : Nat) (h : i < vs.length) (h' : j < vs.length), i ≠ j → vs[i].ownBlock = none ∨ vs[i].ownBlock ≠ vs[j].ownBlock
theorem Pile.nil (ei lo : Nat) (w : World) : Pile ei lo w [] [] := ⟨rfl, fun _ h => absurd h (Nat.not_lt_zero _), fun _ _ h => absurd h (Nat.not_lt_zero _)⟩
theorem Pile.below {ei lo : Nat} {w w' : World} {vs : List Value} {css : List (List Value)} (h : Pile ei lo w vs css) (hb : Below w.heap.size w w') : Pile ei lo w' vs css :=
 ⟨h.len, fun i hi hi' => owns_below (h.row i hi hi') hb, h.far⟩
theorem Pile.lower {ei lo lo' : Nat} {w : World} {vs : List Value} {css : List (List Value)} (h : Pile ei lo w vs css) (hl : lo' ≤ lo) : Pile ei lo' w vs css :=
 ⟨h.len, fun i hi hi' => own_lower (h.row i hi hi') hl, h.far⟩
theorem Pile.kept {ei lo : Nat} {w w' : World} {vs : List Value} {css : List (List Value)} {row : Option Nat} (h : Pile ei lo w vs css) (hg : w.grownBy w' row) (hr : ∀ (i : Nat) (h : i < vs.length), vs[i].ownBlock = none ∨ vs[i].ownBlock ≠ row) : Pile ei lo w' vs css :=
 ⟨h.len, fun i hi hi' => (h.row i hi hi').kept hg (hr i hi), h.far⟩
/-- A row of another type was written. -/
theorem Pile.other {ei eo lo lo2 size n : Nat} {w w' : World} {vs : List Value} {css : List (List Value)} {v : Value} {xs : List Value} (h : Pile ei lo w vs css) (he : ei ≠ eo) (ho : w.ownsRow lo2 eo size v n xs) (hg : w.grownBy w' v.ownBlock) : Pile ei lo w' vs css :=
 h.kept hg fun i hi => own_types (h.row i hi (by rw [← h.len]; exact hi)) ho he
theorem own_type_far {w : World} {base e size n b : Nat} {v : Value} {xs : List Value} (ho : w.ownsRow base e size v n xs) {a : Array Value} {t : TypeId} {fr : Nat × Nat} (hb : w.heap[b]? = some (.cells a t fr)) (he : e ≠ t) : v.ownBlock = none ∨ v.ownBlock ≠ some b := by
 rcases ho.2 with ⟨rfl, -⟩ | ⟨g, c, u, rfl, -, hg, -⟩
 ·exact .inl rfl
 ·refine .inr fun e2 => ?_
  simp only [Value.ownBlock, Option.some.injEq] at e2
  subst e2
  rw [hg] at hb
  simp only [Option.some.injEq, Obj.cells.injEq] at hb
  exact he hb.2.1
/-- A cell of a block of another type was written. -/
theorem Pile.set {ei lo : Nat} {w : World} {vs : List Value} {css : List (List Value)} (h : Pile ei lo w vs css) {b : Nat} {cs : List Value} {t : TypeId} (hb : Blk w b cs t) (he : ei ≠ t) (i : Nat) (u : Value) : Pile ei lo (w.setCell ⟨b, i, none⟩ u) vs css :=
 h.kept (grown_setCell w ⟨b, i, none⟩ u) fun j hj => own_type_far (h.row j hj (by rw [← h.len]; exact hj)) hb he
/-- One row is written. -/
theorem Pile.put {ei lo : Nat} {w w' : World} {vs : List Value} {css : List (List Value)} (h : Pile ei lo w vs css) (j : Nat) (hj : j < vs.length) (ys : List Value) (hg : w.grownBy w' vs[j].ownBlock) (ho : w'.ownsRow lo ei 1 vs[j] ys.length ys) : Pile ei lo w' vs (css.set j ys) := by
 refine ⟨by simpa using h.len, fun i hi hi' => ?_, h.far⟩
 by_cases hij : j = i
 ·subst hij
  simpa using ho
 ·rw [List.getElem_set_ne hij]
  exact (h.row i hi (by simpa using hi')).kept hg (h.far i j hi hj (fun e => hij e.symm))
/-- One row more, which lies behind all that was there. -/
theorem Pile.push {ei lo B : Nat} {w0 w : World} {rv : Value} {vs : List Value} {css : List (List Value)} {ys : List Value} (h : Pile ei lo w0 vs css) (hB : w0.heap.size ≤ B) (hb : Below w0.heap.size w0 w) (hr : w.ownsRow B ei 1 rv ys.length ys) (hlo : lo ≤ B) :
  Pile ei lo w (vs ++ [rv]) (css ++ [ys]) := by
 have hk := h.below hb
 have hl := h.len
 refine ⟨by simp [hl], fun i hi hi' => ?_, fun i j hi hj hij => ?_⟩
 ·by_cases hlt : i < vs.length
  ·rw [List.getElem_append_left hlt]
   simp only [List.getElem_append_left (show i < css.length by omega)]
   exact hk.row i hlt (by omega)
  ·have e : i = vs.length := by simp at hi; omega
   subst e
   rw [List.getElem_concat_length rfl]
   have : (css ++ [ys])[vs.length] = ys := by simp [hl]
   rw [this]
   exact own_lower hr hlo
 ·have hold : ∀ (i : Nat) (h : i < vs.length) b, vs[i].ownBlock = some b → b < w0.heap.size := fun i hi b e => ((h.row i hi (by omega)).lt b e).2
  have hnb : ∀ b, rv.ownBlock = some b → B ≤ b := fun b e => (hr.lt b e).1
  by_cases h1' : i < vs.length <;> by_cases h2' : j < vs.length
  ·rw [List.getElem_append_left h1', List.getElem_append_left h2']
   exact h.far i j h1' h2' hij
  ·have e : j = vs.length := by simp at hj; omega
   subst e
   rw [List.getElem_append_left h1', List.getElem_concat_length rfl]
   cases hb1 : vs[i].ownBlock with
   | none => exact .inl rfl
   | some b => exact .inr fun e => by have := hold i h1' b hb1; have := hnb b e.symm; omega
  ·have e : i = vs.length := by simp at hi; omega
   subst e
   rw [List.getElem_append_left h2', List.getElem_concat_length rfl]
   cases hb1 : rv.ownBlock with
   | none => exact .inl rfl
   | some b => exact .inr fun e => by have := hold j h2' b e.symm; have := hnb b hb1; omega
  ·simp at hi hj; omega
theorem Pile.one {ei lo B : Nat} {w : World} {rv : Value} {ys : List Value} (hr : w.ownsRow B ei 1 rv ys.length ys) (hlo : lo ≤ B) : Pile ei lo w [rv] [ys] := by
 refine ⟨rfl, fun i hi hi' => ?_, fun i j hi hj hij => ?_⟩
 ·obtain rfl : i = 0 := by simp at hi; omega
  exact own_lower hr hlo
 ·simp at hi hj; omega
theorem Pile.old {ei lo : Nat} {w : World} {vs : List Value} {css : List (List Value)} (h : Pile ei lo w vs css) {i : Nat} (hi : i < vs.length) {b : Nat} (e : vs[i].ownBlock = some b) : lo ≤ b ∧ b < w.heap.size :=
 (h.row i hi (by rw [← h.len]; exact hi)).lt b e

end Go.Proofs.YtifoinannefcpaaGreatDoor

namespace Go.Proofs.YtifoinannefcpaaGreatDoor
open Go Go.RowKit

def txts (xs : List ByteArray) : List Value := xs.map Value.string
/-- A list of texts of the call's own. -/
def OwnStrs (lo : Nat) (w : World) (v : Value) (xs : List ByteArray) : Prop := w.ownsRow lo 9 1 v xs.length (txts xs)
theorem OwnStrs.below {lo : Nat} {w w' : World} {v : Value} {xs : List ByteArray} (h : OwnStrs lo w v xs) (hb : Below w.heap.size w w') : OwnStrs lo w' v xs := owns_below h hb
theorem OwnStrs.lower {lo lo' : Nat} {w : World} {v : Value} {xs : List ByteArray} (h : OwnStrs lo w v xs) (hl : lo' ≤ lo) : OwnStrs lo' w v xs := own_lower h hl
theorem OwnStrs.at {lo : Nat} {w : World} {v : Value} {xs : List ByteArray} (h : OwnStrs lo w v xs) : SliceK 1 encS lo w v xs := SliceK.of_owns (e := 9) encS_len rfl (by rw [flat_encS]; exact h)
theorem txts_len (xs : List ByteArray) : (txts xs).length = xs.length := by simp [txts]
end Go.Proofs.YtifoinannefcpaaGreatDoor

namespace Go.Proofs.YtifoinannefcpaaGreatDoor
open Go Go.RowKit

theorem info_strD : (Tryz.prog.info? 9).map (fun i => (i.zero, i.size, i.bytes)) = some (some (.string ⟨#[]⟩), 1, 16) := by kernel_rfl
/-- The names that are drawn. -/
def nmA : ByteArray := ⟨#[97]⟩
def nmB : ByteArray := ⟨#[98]⟩
def nmC : ByteArray := ⟨#[99]⟩
def nmG0 : ByteArray := ⟨#[103, 101, 116, 40, 48, 41]⟩
def nmG1 : ByteArray := ⟨#[103, 101, 116, 40, 49, 41]⟩
def nmT : ByteArray := ⟨#[116, 97, 117]⟩
def nmL : List ByteArray := [nmA, nmB, nmC, nmG0, nmG1]
def nmAll : List ByteArray := nmT :: nmL
theorem strs_lit {w : World} {cs : Array Value} {xs : List ByteArray} (h : cs.toList = txts xs) (hm : xs.length ≤ 1000) : OwnStrs w.heap.size (w.alloc (.cells cs 9)) (.slice (some ⟨w.heap.size, 0, none⟩) xs.length xs.length) xs := by
 have hl : cs.size = xs.length := by rw [← Array.length_toList, h, txts_len]
 unfold OwnStrs
 rw [← h]
 exact World.ownsRow_lit (size := 1) w cs xs.length (Nat.le_refl _) (by simp [maxLen]; omega) (by rw [hl, Nat.mul_one])
theorem Blk.far {w w' : World} {b : Nat} {cs : List Value} {t : TypeId} {row : Option Nat} (h : Blk w b cs t) (hg : w.grownBy w' row) (hne : row ≠ some b) : Blk w' b cs t := (hg.block b h.lt (fun e => hne e.symm)).trans h
theorem txt_cell {w : World} {b k : Nat} {xs : List ByteArray} (h : Blk w b (txts xs) 9) (hk : k < xs.length) : w.cell? ⟨b, k, none⟩ = some (.string xs[k]) := h.cell k (by unfold txts; rw [List.getElem?_map, List.getElem?_eq_getElem hk]; rfl)

set_option maxRecDepth 100000 in
set_option maxHeartbeats 1000000 in
theorem drawNames_any (sb n : Nat) (w : World) (hs : Src sb n w) (hn : n ≤ 999990000) :
  Calls Tryz.prog 37 #[.pointer (some ⟨sb, 0, none⟩)] w fun e w' => ∃ (v : Value) (ls : List ByteArray), e = .returned v ∧ Drew sb (n + 10) w w' ∧ OwnStrs w.heap.size w' v ls ∧ 2 ≤ ls.length ∧ ls.length ≤ 7 ∧ ∀ l ∈ ls, l ∈ nmAll := by
 obtain ⟨i0, hi0, hz0, hz1, hz2⟩ := info_parts info_strD
 have hsb := hs.lt
 obtain ⟨lb, hlb⟩ : ∃ lb, lb = w.heap.size + 1 := ⟨_, rfl⟩
 obtain ⟨W, hW⟩ : ∃ W, W = (w.alloc (.cells #[.string nmT] 9)).alloc (.cells #[.string nmA, .string nmB, .string nmC, .string nmG0, .string nmG1] 9) := ⟨_, rfl⟩
 have HD0 : Hid (Drew sb n w W) := by unfold Hid; rw [hW]; exact ((Drew.refl hs).alloc _).alloc _
 have HO0 : Hid (OwnStrs w.heap.size W (.slice (some ⟨w.heap.size, 0, none⟩) 1 1) [nmT]) := by unfold Hid; rw [hW]; exact (strs_lit (w := w) (xs := [nmT]) rfl (by decide)).below ((Below.refl _ _).alloc (Nat.le_refl _) _)
 have HL0 : Hid (Blk W lb (txts nmL) 9) := by
  have h := Blk.new (w.alloc (.cells #[.string nmT] 9)) (txts nmL) 9
  rw [World.size_alloc, ← hlb] at h
  unfold Hid
  rw [hW]
  exact h
 have HW : Hid (W = (w.alloc (.cells #[.string ⟨#[116, 97, 117]⟩] 9)).alloc (.cells #[.string ⟨#[97]⟩, .string ⟨#[98]⟩, .string ⟨#[99]⟩, .string ⟨#[103, 101, 116, 40, 48, 41]⟩, .string ⟨#[103, 101, 116, 40, 49, 41]⟩] 9)) := hW
 have HLB := Lib.hid hlb
 clear hs hW hlb
 go_enter Tryz.func37, Tryz.ntmps37
 go_wp2_with fail
 rw [← HW.out]
 rw [← HLB.out]
 go_loopw [3, 5] (fun v3 v5 wr => ∃ (k : Nat) (ls : List ByteArray) (g c : Nat), k ≤ 5 ∧ v3 = .slice (some ⟨g, 0, none⟩) ls.length c ∧ v5 = .int .i64 k ∧ Drew sb (n + 2 * k) w wr ∧ OwnStrs w.heap.size wr (.slice (some ⟨g, 0, none⟩) ls.length c) ls ∧ Blk wr lb (txts nmL) 9 ∧ g ≠ lb ∧ 1 ≤ ls.length ∧ ls.length ≤ k + 1 ∧ ∀ l ∈ ls, l ∈ nmAll) (fun _ v5 _ => 5 - (intOf v5).toNat)
 case atStart => exact ⟨0, [nmT], w.heap.size, 1, Nat.zero_le _, rfl, rfl, HD0.out, HO0.out, HL0.out, by rw [HLB.out]; omega, by simp, by simp, fun l hl => by rw [List.mem_singleton] at hl; rw [hl]; simp [nmAll]⟩
 case round =>
  clear HD0 HO0 HL0
  obtain ⟨k, ls, g, c, hk, rfl, rfl, hd, ho, hl, hgl, hl1, hlk, hmem⟩ := hrel
  obtain ⟨wC, rfl⟩ : ∃ wC : World, wC = wr := ⟨_, rfl⟩
  have HD := Lib.hid hd
  have HO := Lib.hid ho
  have HL := Lib.hid hl
  have HM := Lib.hid hmem
  have HGL := Lib.hid hgl
  have hszC : w.heap.size ≤ wC.heap.size := hd.size
  clear hd ho hl hmem hgl
  by_cases hlt : k < 5
  ·have hk5 : k < nmL.length := hlt
   have HONE := Lib.hid (one_any sb (n + 2 * k) 2 wC HD.out.2 (by omega) (by decide))
   go_wp2_with fail
   refine Calls.mono HONE.out ?_
   rintro e w1 ⟨b, rfl, hd1⟩
   have HD1 : Hid (Drew sb (n + 2 * (k + 1)) w w1) := (HD.out.trans hd1).mono (by omega)
   have HO1 : Hid (OwnStrs w.heap.size w1 (.slice (some ⟨g, 0, none⟩) ls.length c) ls) := hd1.own HO.out hsb
   have HL1 : Hid (Blk w1 lb (txts nmL) 9) := hd1.blk HL.out (by rw [HLB.out]; omega)
   have hsz1 : w.heap.size ≤ w1.heap.size := HD1.out.size
   have c1 := txt_cell HL1.out hk5
   obtain ⟨x, hx⟩ : ∃ x, x = nmL[k] := ⟨_, rfl⟩
   rw [← hx] at c1
   have HX : Hid (x ∈ nmAll) := by unfold Hid nmAll; rw [hx]; exact List.mem_cons_of_mem _ (List.getElem_mem hk5)
   clear hd1 HONE hx HD HO HL hk5
   cases b
   ·go_wp2
    go_roundw
    case rel => exact ⟨k + 1, ls, g, c, by omega, rfl, by go_num, HD1.out, HO1.out, HL1.out, HGL.out, hl1, by omega, HM.out⟩
    case measure => simp [intOf]; omega
   ·by_cases h4 : ls.length < 4
    ·have h4i : (ls.length : Int) < 4 := by omega
     go_wp2_with (at_builtin; refine wpList_append_lies _ rfl _ _ 24 rfl w.heap.size 9 i0 (.string ⟨#[]⟩) 1 16 Tryz.underlying24 hi0 hz0 hz1 hz2 rfl (by decide) _ _ _ rfl (HO1.out.alloc _) ⟨w1.heap.size, 0, none⟩ 1 1 [.string x] rfl rfl ?c1 ?c2 ?c3 ?c4 ?c5 ?c6 _ rfl ?_)
     case c1 => exact World.news_of_block (cs := #[.string x]) (t := 9) (fr := (0, 0)) (heap_alloc_new _ _)
     case c2 => intro u hu; simp at hu; subst hu; rfl
     case c3 => omega
     case c4 => simp [maxLen]; omega
     case c5 => omega
     case c6 => simp; omega
     intro g3 cap3 w3 ho3 hg3 hat3 hlt3
     have HD3 : Hid (Drew sb (n + 2 * (k + 1)) w w3) := (HD1.out.alloc _).grown hg3 (fun j e => (HO1.out.lt j e).1) hsb
     have HL3 : Hid (Blk w3 lb (txts nmL) 9) := (HL1.out.alloc _).far hg3 (fun e => HGL.out (Option.some.inj e))
     have HO3 : Hid (OwnStrs w.heap.size w3 (.slice (some ⟨g3, 0, none⟩) (ls ++ [x]).length cap3) (ls ++ [x])) := by
      unfold Hid OwnStrs txts
      rw [List.map_append, List.length_append]
      exact ho3
     have HG3 : Hid (g3 ≠ lb) := by
      rcases hat3 with e | e
      ·have : g = g3 := Option.some.inj e
       unfold Hid
       rw [← this]
       exact HGL.out
      ·unfold Hid
       have := HL1.out.lt
       rw [e]
       omega
     clear ho3 hg3 hat3 hlt3
     go_wp2
     go_roundw
     case rel => exact ⟨k + 1, ls ++ [x], g3, cap3, by omega, by simp, by go_num, HD3.out, HO3.out, HL3.out, HG3.out, by simp, by simp; omega, fun l hl => by
      rcases List.mem_append.1 hl with h | h
      ·exact HM.out l h
      ·rw [List.mem_singleton] at h; rw [h]; exact HX.out⟩
     case measure => simp [intOf]; omega
    ·have h4i : ¬ (ls.length : Int) < 4 := by omega
     go_wp2
     go_roundw
     case rel => exact ⟨k + 1, ls, g, c, by omega, rfl, by go_num, HD1.out, HO1.out, HL1.out, HGL.out, hl1, by omega, HM.out⟩
     case measure => simp [intOf]; omega
  ·by_cases h1 : ls.length = 1
   ·have h1i : ((ls.length : Int) == 1) = true := by rw [h1]; rfl
    go_wp2_with (at_builtin; refine wpList_append_own _ rfl _ _ 24 rfl w.heap.size 9 i0 (.string ⟨#[]⟩) 1 16 Tryz.underlying24 hi0 hz0 hz1 hz2 rfl (by decide) _ _ _ rfl (HO.out.alloc _) ⟨wC.heap.size, 0, none⟩ 1 1 [.string nmA] rfl rfl ?c1 ?c2 ?c3 ?c4 ?c5 ?_)
    case c1 => exact World.news_of_block (cs := #[.string nmA]) (t := 9) (fr := (0, 0)) (heap_alloc_new _ _)
    case c2 => intro u hu; simp at hu; subst hu; rfl
    case c3 => simp [maxLen]; omega
    case c4 => omega
    case c5 => simp; omega
    intro v3 w3 ho3 hg3 _
    have HD3 : Hid (Drew sb (n + 10) w w3) := ((HD.out.alloc _).grown hg3 (fun j e => (HO.out.lt j e).1) hsb).mono (by omega)
    have HO3 : Hid (OwnStrs w.heap.size w3 v3 (ls ++ [nmA])) := by
     unfold Hid OwnStrs txts
     rw [List.map_append, List.length_append, h1]
     exact ho3
    clear ho3 hg3
    go_wp2
    go_ret
    exact ⟨v3, ls ++ [nmA], rfl, HD3.out, HO3.out, by simp; omega, by simp; omega, fun l hl => by
     rcases List.mem_append.1 hl with h | h
     ·exact HM.out l h
     ·rw [List.mem_singleton] at h; rw [h]; simp [nmAll, nmL]⟩
   ·have h1i : ((ls.length : Int) == 1) = false := by simp; omega
    go_wp2
    go_ret
    exact ⟨_, ls, rfl, HD.out.mono (by omega), HO.out, by omega, by omega, HM.out⟩

end Go.Proofs.YtifoinannefcpaaGreatDoor
