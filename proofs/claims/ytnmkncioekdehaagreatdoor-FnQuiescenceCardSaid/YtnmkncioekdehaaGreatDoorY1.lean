/-
  Plain notions for the proofs of this seat: how slices, labelled transition systems and their edges lie in memory, and how such facts are carried from one world to a later one.
  An argument of a system's type, opened: what its reading says of the cells behind it.
  The source of choices: its state in memory, and what its methods draw: numbers below the bound, and nothing else turns.
  An argument that is a list of bytes, opened.
  Lists of texts and lists of such lists of the call's own: how they lie in memory.
  The reference's drawers: names.
  Texts as lists of bytes: names, numbers and labels. Plain definitions; no program in sight.
-/
import Derived.WalkKit
import Derived.WalkSpells
import Derived.WalkLawsBesides
import Derived.Lib.Hide
import Derived.BigQuiet
import Derived.Deep.QuietTactic
import Derived.Deep.LoopGhost
import Derived.ProofKit
import Derived.Lib.ItoaMem
import Derived.OpenShut
import Derived.Deep.Strs
import Derived.Deep.Slices
import Derived.Test.YtnmkncioekdehaaGreatDoorProg
import Derived.ChangeSlices
import Derived.Deep.AppendLies
import Derived.Sort.LoopGhostIn
import Derived.Lib.Strings
import Derived.Lib.Bytes
namespace Go.Proofs.YtnmkncioekdehaaGreatDoor
open Go Go.RowKit

structure Edge where
 src : Int
 lab : Int
 dst : Int
 deriving DecidableEq

structure Lts where
 states : Int
 initial : Int
 labels : List ByteArray
 edges : List Edge

/-- The elements xs of a slice with the address a lie in one block, from lo on, each in k cells. -/
def RowK {α : Type} (k : Nat) (enc : α → List Value) (lo : Nat) (w : World) (a : Option Addr) (xs : List α) : Prop :=
 xs.length = 0 ∨ ∃ b off, a = some ⟨b, off, none⟩ ∧ lo ≤ b ∧ b < w.heap.size ∧ ∀ i (h : i < xs.length) j, j < k → w.cell? ⟨b, off + i * k + j, none⟩ = (enc xs[i])[j]?

/-- A slice's value that holds the elements xs. -/
def SliceK {α : Type} (k : Nat) (enc : α → List Value) (lo : Nat) (w : World) (v : Value) (xs : List α) : Prop :=
 ∃ a cap, v = .slice a xs.length cap ∧ xs.length ≤ cap ∧ cap ≤ 9223372036854775807 ∧ RowK k enc lo w a xs

theorem RowK.below {α : Type} {k : Nat} {enc : α → List Value} {lo : Nat} {w w' : World} {a : Option Addr} {xs : List α} (h : RowK k enc lo w a xs) (hb : Below w.heap.size w w') : RowK k enc lo w' a xs := by
 rcases h with h | ⟨b, off, ha, h1, h2, h3⟩
 ·exact .inl h
 ·exact .inr ⟨b, off, ha, h1, Nat.lt_of_lt_of_le h2 hb.size, fun i hi j hj => by rw [hb.cell h2]; exact h3 i hi j hj⟩

theorem SliceK.below {α : Type} {k : Nat} {enc : α → List Value} {lo : Nat} {w w' : World} {v : Value} {xs : List α} (h : SliceK k enc lo w v xs) (hb : Below w.heap.size w w') : SliceK k enc lo w' v xs := by
 obtain ⟨a, cap, h1, h2, h4, h3⟩ := h
 exact ⟨a, cap, h1, h2, h4, h3.below hb⟩

theorem RowK.mono {α : Type} {k : Nat} {enc : α → List Value} {lo lo' : Nat} {w : World} {a : Option Addr} {xs : List α} (h : RowK k enc lo w a xs) (hl : lo' ≤ lo) : RowK k enc lo' w a xs := by
 rcases h with h | ⟨b, off, ha, h1, h2, h3⟩
 ·exact .inl h
 ·exact .inr ⟨b, off, ha, Nat.le_trans hl h1, h2, h3⟩

theorem SliceK.mono {α : Type} {k : Nat} {enc : α → List Value} {lo lo' : Nat} {w : World} {v : Value} {xs : List α} (h : SliceK k enc lo w v xs) (hl : lo' ≤ lo) : SliceK k enc lo' w v xs := by
 obtain ⟨a, cap, h1, h2, h4, h3⟩ := h
 exact ⟨a, cap, h1, h2, h4, h3.mono hl⟩

/-- An element's one cell. -/
def encI (n : Int) : List Value := [.int .i64 n]
def encS (s : ByteArray) : List Value := [.string s]
def encE (e : Edge) : List Value := [.int .i64 e.src, .int .i64 e.lab, .int .i64 e.dst]
theorem RowK.one {α : Type} {enc : α → List Value} {lo : Nat} {w : World} {a : Option Addr} {xs : List α} (h : RowK 1 enc lo w a xs) {i : Nat} (hi : i < xs.length) :
  ∃ b off, a = some ⟨b, off, none⟩ ∧ lo ≤ b ∧ b < w.heap.size ∧ w.cell? ⟨b, off + i, none⟩ = (enc xs[i])[0]? := by
 rcases h with h | ⟨b, off, ha, h1, h2, h3⟩
 ·omega
 ·exact ⟨b, off, ha, h1, h2, by have := h3 i hi 0 (by omega); simpa using this⟩

theorem RowK.edge {lo : Nat} {w : World} {a : Option Addr} {xs : List Edge} (h : RowK 3 encE lo w a xs) {i : Nat} (hi : i < xs.length) :
  ∃ b off, a = some ⟨b, off, none⟩ ∧ lo ≤ b ∧ b < w.heap.size ∧ w.cell? ⟨b, off + i * 3, none⟩ = some (.int .i64 xs[i].src) ∧ w.cell? ⟨b, off + i * 3 + 1, none⟩ = some (.int .i64 xs[i].lab) ∧ w.cell? ⟨b, off + i * 3 + 2, none⟩ = some (.int .i64 xs[i].dst) := by
 rcases h with h | ⟨b, off, ha, h1, h2, h3⟩
 ·omega
 ·exact ⟨b, off, ha, h1, h2, by have := h3 i hi 0 (by omega); simpa [encE] using this, by have := h3 i hi 1 (by omega); simpa [encE] using this, by have := h3 i hi 2 (by omega); simpa [encE] using this⟩

/-- A cell of an old block, later. -/
theorem keeps {B : Nat} {w w' : World} (h : Below B w w') {b o : Nat} {v : Value} (hb : b < B) (hc : w.cell? ⟨b, o, none⟩ = some v) : w'.cell? ⟨b, o, none⟩ = some v :=
 (h.cell (p := ⟨b, o, none⟩) hb).trans hc

theorem both {W w1 : World} (hb : Below W.heap.size W w1) : (∀ b o, b < W.heap.size → w1.cell? ⟨b, o, none⟩ = W.cell? ⟨b, o, none⟩) ∧ (∀ b o, b < W.heap.size → w1.frozen? ⟨b, o, none⟩ = W.frozen? ⟨b, o, none⟩) :=
 ⟨fun b o h => hb.cell (p := ⟨b, o, none⟩) h, fun b o h => hb.frozen (p := ⟨b, o, none⟩) h⟩

theorem ret_int {k : IntKind} {a b : Int} (h : a = b) : Ending.returned (.int k a) = .returned (.int k b) := by rw [h]
theorem ret_bool {a b : Bool} (h : a = b) : Ending.returned (.bool a) = .returned (.bool b) := by rw [h]

/-- The value of a system (a struct). -/
def LtsAt (lo : Nat) (w : World) (v : Value) (t : Lts) : Prop :=
 ∃ lv ev, v = .agg #[.int .i64 t.states, .int .i64 t.initial, lv, ev] ∧ SliceK 1 encS lo w lv t.labels ∧ SliceK 3 encE lo w ev t.edges

theorem LtsAt.below {lo : Nat} {w w' : World} {v : Value} {t : Lts} (h : LtsAt lo w v t) (hb : Below w.heap.size w w') : LtsAt lo w' v t := by
 obtain ⟨lv, ev, h1, h2, h3⟩ := h
 exact ⟨lv, ev, h1, h2.below hb, h3.below hb⟩

theorem drews {B : Nat} {a w : World} (h : Below B a w) (n : Nat) : Below B a (w.drewN n) := ⟨h.os, h.tape, h.output, h.size, h.block⟩

/-- A later world: what was there when the heap was that of w0 is as it was. -/
structure Later (w0 : World) where
 w : World
 h : Below w0.heap.size w0 w

instance (w : World) : Nonempty (Later w) := ⟨⟨w, Below.refl _ _⟩⟩

/-- A region that draws its order and whose operations read, or call functions that turn nothing that was there: walked once. -/
theorem wp_region_later {P : Program} {id : Nat} {Q : Exit → Act → World → Prop} {a : Act} {w : World} {l : List Oper} (hm : P.follows .mixedOrders = true) (hB : Region.lexB .any l.toArray = true)
  (h : wpQuiet P l.toArray (fun w' => ∃ g : Later w, w' = g.w) (fun a' => ∀ w', (∃ g : Later w, w' = g.w) → Q .normal a' w') l a) : (Code.region id l.toArray true).wp P Q a w :=
 wp_region_quiet (C := fun w' => ∃ g : Later w, w' = g.w) hm hB ⟨⟨_, (Below.refl _ w).drew⟩, rfl⟩ (by simpa using h)

theorem later_call {P : Program} {f : FuncId} {args : Array Value} {w0 : World} {g : Later w0} {v : Value}
  (h : Calls P f args g.w fun e w' => e = .returned v ∧ Below g.w.heap.size g.w w') : Calls P f args g.w fun e w'' => e = .returned v ∧ ∃ g' : Later w0, w'' = g'.w :=
 h.mono fun _ w' ⟨he, hb⟩ => ⟨he, ⟨⟨w', g.h.trans (hb.mono g.h.size)⟩, rfl⟩⟩

theorem later_same {P : Program} {f : FuncId} {args : Array Value} {w0 : World} {g : Later w0} {v : Value}
  (h : Calls P f args g.w fun e w' => e = .returned v ∧ g.w = w') : Calls P f args g.w fun e w'' => e = .returned v ∧ ∃ g' : Later w0, w'' = g'.w :=
 h.mono fun _ _ ⟨he, hb⟩ => ⟨he, ⟨g, hb.symm⟩⟩

/-- A fact on an old cell, in every later world. -/
theorem later_cell {w0 : World} {b o : Nat} {v : Value} (hb : b < w0.heap.size) (hc : w0.cell? ⟨b, o, none⟩ = some v) : ∀ g : Later w0, g.w.cell? ⟨b, o, none⟩ = some v :=
 fun g => keeps g.h hb hc

/-- A row of the call's own reads as a slice. -/
theorem SliceK.of_owns {α : Type} {k : Nat} {enc : α → List Value} (hk : ∀ x, (enc x).length = k) {lo e : Nat} {w : World} {v : Value} {n : Nat} {xs : List α} (hn : n = xs.length) (h : w.ownsRow lo e k v n (xs.flatMap enc)) : SliceK k enc lo w v xs := by
 subst hn
 obtain ⟨h0, ⟨rfl, h1⟩ | ⟨g, cap, cur, rfl, hg, hh, hc, hm, hs, ht⟩⟩ := h
 ·exact ⟨none, 0, by rw [h1], by omega, by omega, .inl h1⟩
 ·refine ⟨_, _, rfl, hc, by simpa [maxLen] using hm, .inr ⟨g, 0, rfl, hg, (Array.getElem?_eq_some_iff.1 hh).1, fun i hi j hj => ?_⟩⟩
  have hlt : i * k + j < xs.length * k := by
   have := Nat.mul_le_mul_right k (Nat.succ_le_of_lt hi)
   rw [Nat.succ_mul] at this
   omega
  have e1 : w.cell? ⟨g, i * k + j, none⟩ = (xs.flatMap enc)[i * k + j]? := by
   rw [cell_of_row w g _ cur e (0, 0) hh, ← ht, List.getElem?_take, if_pos hlt]
   simp
  rw [Nat.zero_add, e1]
  clear e1 hlt ht hs h0
  induction xs generalizing i with
  | nil => simp at hi
  | cons x r ih =>
   rw [List.flatMap_cons]
   cases i with
   | zero => rw [Nat.zero_mul, Nat.zero_add, List.getElem?_append_left (by rw [hk]; exact hj)]; rfl
   | succ i =>
    rw [List.getElem?_append_right (by rw [hk, Nat.succ_mul]; omega), hk, show (i + 1) * k + j - k = i * k + j from by rw [Nat.succ_mul]; omega]
    exact ih (by simp at hc ⊢; omega) _ (by simpa using hi)

theorem encI_len (n : Int) : (encI n).length = 1 := rfl
theorem encS_len (n : ByteArray) : (encS n).length = 1 := rfl
theorem encE_len (n : Edge) : (encE n).length = 3 := rfl

/-- A slice that lies elsewhere than the row that was written. -/
theorem SliceK.grown {α : Type} {k : Nat} {enc : α → List Value} {lo : Nat} {w w' : World} {row : Option Nat} {v : Value} {xs : List α} (h : SliceK k enc lo w v xs) (hg : w.grownBy w' row) (hne : ∀ k, row = some k → k < lo) : SliceK k enc lo w' v xs := by
 obtain ⟨a, cap, h1, h2, h4, h3⟩ := h
 refine ⟨a, cap, h1, h2, h4, ?_⟩
 rcases h3 with h | ⟨b, off, ha, h1, h2, h3⟩
 ·exact .inl h
 ·exact .inr ⟨b, off, ha, h1, Nat.lt_of_lt_of_le h2 hg.size, fun i hi j hj => by
   rw [World.cell?_of_block (w := w) (hg.block b h2 (fun e => by have := hne b e.symm; omega))]; exact h3 i hi j hj⟩

theorem filled_set {α : Type} (xs : List α) (f : α → Value) (z : Value) (k : Nat) (h : k < xs.length) :
  ((xs.take k).map f ++ List.replicate (xs.length - k) z).set k (f xs[k]) = (xs.take (k + 1)).map f ++ List.replicate (xs.length - (k + 1)) z := by
 have hl : ((xs.take k).map f).length = k := by simp; omega
 rw [show xs.length - k = (xs.length - (k + 1)) + 1 from by omega, List.replicate_succ, List.set_append_right _ _ (by omega), hl, Nat.sub_self, List.set_cons_zero,
  List.take_succ_eq_append_getElem h, List.map_append, List.append_assoc]
 rfl

theorem filled_get {α : Type} (xs : List α) (f : α → Value) (z : Value) (k : Nat) (h : k < xs.length) :
  ((xs.take k).map f ++ List.replicate (xs.length - k) z)[k]? = some z := by
 have hl : ((xs.take k).map f).length = k := by simp; omega
 rw [List.getElem?_append_right (by omega), hl, Nat.sub_self, List.getElem?_replicate, if_pos (by omega)]

theorem owns_below {w w' : World} {base e size n : Nat} {v : Value} {xs : List Value} (h : w.ownsRow base e size v n xs) (hb : Below w.heap.size w w') : w'.ownsRow base e size v n xs :=
 h.kept (row := none) ⟨hb.os, hb.tape, hb.output, hb.size, fun k hk _ => hb.block k hk⟩ (by cases v.ownBlock <;> simp)

theorem grown_setCell (w : World) (p : Addr) (u : Value) : w.grownBy (w.setCell p u) (some p.block) :=
 ⟨rfl, rfl, rfl, by simp, fun k _ hk => Go.RowKit.Below.heap_setCell w p u k (fun h => hk (by rw [h]))⟩

/-- A block known whole. -/
def Blk (w : World) (b : Nat) (cs : List Value) (t : TypeId) : Prop := w.heap[b]? = some (.cells cs.toArray t (0, 0))

theorem Blk.lt {w : World} {b : Nat} {cs : List Value} {t : TypeId} (h : Blk w b cs t) : b < w.heap.size := (Array.getElem?_eq_some_iff.1 h).1
theorem Blk.cell {w : World} {b : Nat} {cs : List Value} {t : TypeId} (h : Blk w b cs t) (i : Nat) {v : Value} (hi : cs[i]? = some v) : w.cell? ⟨b, i, none⟩ = some v := by
 rw [cell_of_row w b i _ t (0, 0) h]; simpa using hi
theorem Blk.frozen {w : World} {b : Nat} {cs : List Value} {t : TypeId} (h : Blk w b cs t) (i : Nat) : w.frozen? ⟨b, i, none⟩ = false := frozen_of_row w b i _ t h
theorem Blk.below {w w' : World} {b : Nat} {cs : List Value} {t : TypeId} (h : Blk w b cs t) (hb : Below w.heap.size w w') : Blk w' b cs t := (hb.block b h.lt).trans h
theorem Blk.belowB {B : Nat} {w w' : World} {b : Nat} {cs : List Value} {t : TypeId} (h : Blk w b cs t) (hb : Below B w w') (hB : b < B) : Blk w' b cs t := (hb.block b hB).trans h
theorem Blk.set {w : World} {b : Nat} {cs : List Value} {t : TypeId} (h : Blk w b cs t) (i : Nat) (v : Value) : Blk (w.setCell ⟨b, i, none⟩ v) b (cs.set i v) t := by
 have := heap_setCell_same w b i _ t v h
 unfold Blk
 rw [this]
 simp
theorem Blk.setOther {w : World} {b : Nat} {cs : List Value} {t : TypeId} (h : Blk w b cs t) (p : Addr) (v : Value) (hp : b ≠ p.block) : Blk (w.setCell p v) b cs t := (heap_setCell_other w p b v hp).trans h
theorem Blk.new (w : World) (cs : List Value) (t : TypeId) : Blk (w.alloc (.cells cs.toArray t)) w.heap.size cs t := heap_alloc_new w _
theorem Blk.alloc {w : World} {b : Nat} {cs : List Value} {t : TypeId} (h : Blk w b cs t) (o : Obj) : Blk (w.alloc o) b cs t := (Go.RowKit.Below.heap_alloc w o b h.lt).trans h

theorem grown_refl (w : World) (row : Option Nat) : w.grownBy w row := ⟨rfl, rfl, rfl, Nat.le_refl _, fun _ _ _ => rfl⟩
theorem grown_trans {a b c : World} {row : Option Nat} (h : a.grownBy b row) (k : b.grownBy c row) : a.grownBy c row :=
 ⟨k.os.trans h.os, k.tape.trans h.tape, k.output.trans h.output, Nat.le_trans h.size k.size, fun i hi hn => (k.block i (Nat.lt_of_lt_of_le hi h.size) hn).trans (h.block i hi hn)⟩
theorem grown_below {w w' : World} (hb : Below w.heap.size w w') (row : Option Nat) : w.grownBy w' row := ⟨hb.os, hb.tape, hb.output, hb.size, fun k hk _ => hb.block k hk⟩
theorem flat_encI (xs : List Int) : xs.flatMap encI = xs.map (Value.int .i64) := by
 induction xs with
 | nil => rfl
 | cons a r ih => simp [encI, ih]
theorem flat_encS (xs : List ByteArray) : xs.flatMap encS = xs.map Value.string := by
 induction xs with
 | nil => rfl
 | cons a r ih => simp [encS, ih]

theorem own_cell {w : World} {base e size g n cap : Nat} {xs : List Value} (h : w.ownsRow base e size (.slice (some ⟨g, 0, none⟩) n cap) n xs) (j : Nat) (hj : j < n * size) : ∃ v, w.cell? ⟨g, j, none⟩ = some v :=
 ⟨xs[j]'(by rw [h.1]; exact hj), by rw [h.cellAt j hj]; exact List.getElem?_eq_getElem _⟩

theorem owns_slice {w : World} {base e size n : Nat} {v : Value} {xs : List Value} (h : w.ownsRow base e size v n xs) : ∃ a c, v = .slice a n c ∧ n ≤ c ∧ c ≤ 9223372036854775807 := by
 rcases h.2 with ⟨rfl, rfl⟩ | ⟨g, cap, cur, rfl, -, -, h1, h2, -⟩
 ·exact ⟨none, 0, rfl, Nat.le_refl _, by omega⟩
 ·exact ⟨_, _, rfl, h1, by simpa [maxLen] using h2⟩

theorem own_lower {w : World} {base base' e size n : Nat} {v : Value} {xs : List Value} (h : w.ownsRow base e size v n xs) (hb : base' ≤ base) : w.ownsRow base' e size v n xs := by
 obtain ⟨h0, h | ⟨g, cap, cur, h1, h2, rest⟩⟩ := h
 ·exact ⟨h0, .inl h⟩
 ·exact ⟨h0, .inr ⟨g, cap, cur, h1, Nat.le_trans hb h2, rest⟩⟩

theorem own_types {w : World} {b1 b2 e1 e2 s1 s2 n1 n2 : Nat} {v1 v2 : Value} {x1 x2 : List Value} (h1 : w.ownsRow b1 e1 s1 v1 n1 x1) (h2 : w.ownsRow b2 e2 s2 v2 n2 x2) (he : e1 ≠ e2) : v1.ownBlock = none ∨ v1.ownBlock ≠ v2.ownBlock := by
 rcases h1.2 with ⟨rfl, -⟩ | ⟨g1, c1, u1, rfl, -, hg1, -⟩
 ·exact .inl rfl
 ·refine .inr fun e => ?_
  rcases h2.2 with ⟨rfl, -⟩ | ⟨g2, c2, u2, rfl, -, hg2, -⟩
  ·simp [Value.ownBlock] at e
  ·simp only [Value.ownBlock, Option.some.injEq] at e
   subst e
   rw [hg1] at hg2
   simp only [Option.some.injEq, Obj.cells.injEq] at hg2
   exact he hg2.2.1

end Go.Proofs.YtnmkncioekdehaaGreatDoor

namespace Go.Proofs.YtnmkncioekdehaaGreatDoor
open Go Go.ChangeShapes Go.WideShapes Go.ChangeAt Go.RowKit Go.Deep

instance instEdgeOpen : Inhabited Edge := ⟨⟨0, 0, 0⟩⟩

section
variable {H : Type} {enc : TypeId × Value → H} {P : Program} {w : World} {base : Nat} {spare : Nat → Bool} {held : Bool}

theorem spot_none {w : World} {a : Addr} {v : Value} (h : w.cell? a = some v) : a = ⟨a.block, a.off, none⟩ := by
 unfold World.cell? at h
 split at h
 ·split at h
  ·cases h
  ·next hs =>
   obtain ⟨b, o, s⟩ := a
   cases s with
   | none => rfl
   | some x => simp at hs
 ·cases h

end

end Go.Proofs.YtnmkncioekdehaaGreatDoor

namespace Go.Proofs.YtnmkncioekdehaaGreatDoor
open Go Go.RowKit

/-- Bytes that lie below a block. -/
def BytesIn (B : Nat) (w : World) (v : Value) (bs : List UInt8) : Prop :=
 ∃ (a : Option Addr) (c : Nat), v = .slice a bs.length c ∧ bs.length ≤ 1073741824 ∧ (bs.length = 0 ∨ ∃ b o, a = some ⟨b, o, none⟩ ∧ b < B ∧ b < w.heap.size ∧ ∀ i (h : i < bs.length), w.cell? ⟨b, o + i, none⟩ = some (.int .u8 (bs[i].toNat : Int)))
theorem cell_of_heap {w w' : World} {b o : Nat} (h : w'.heap[b]? = w.heap[b]?) : w'.cell? ⟨b, o, none⟩ = w.cell? ⟨b, o, none⟩ := by
 unfold World.cell?
 rw [h]
theorem BytesIn.grown {B : Nat} {w w' : World} {v : Value} {bs : List UInt8} {row : Option Nat} (h : BytesIn B w v bs) (hg : w.grownBy w' row) (hr : ∀ k, row = some k → B ≤ k) : BytesIn B w' v bs := by
 obtain ⟨a, c, rfl, hl, h0 | ⟨b, o, rfl, hb, hw, hc⟩⟩ := h
 ·exact ⟨a, c, rfl, hl, .inl h0⟩
 ·refine ⟨_, c, rfl, hl, .inr ⟨b, o, rfl, hb, Nat.lt_of_lt_of_le hw hg.size, fun i hi => ?_⟩⟩
  rw [cell_of_heap (hg.block b hw (fun e => by have := hr b e.symm; omega))]
  exact hc i hi
/-- The source: where it stands, at most n. -/
def Src (sb n : Nat) (w : World) : Prop :=
 ∃ (v : Value) (bs : List UInt8) (a : Nat) (sd : Int), BytesIn sb w v bs ∧ Blk w sb [v, .int .i64 a, .int .u64 sd] 60 ∧ a ≤ n ∧ 0 ≤ sd ∧ sd < 18446744073709551616
theorem Src.lt {sb n : Nat} {w : World} (h : Src sb n w) : sb < w.heap.size := by
 obtain ⟨v, bs, a, sd, -, h, -⟩ := h
 exact h.lt
theorem Src.mono {sb n m : Nat} {w : World} (h : Src sb n w) (hm : n ≤ m) : Src sb m w := by
 obtain ⟨v, bs, a, sd, h1, h2, h3, h4⟩ := h
 exact ⟨v, bs, a, sd, h1, h2, Nat.le_trans h3 hm, h4⟩
theorem Src.grown {sb n : Nat} {w w' : World} {row : Option Nat} (h : Src sb n w) (hg : w.grownBy w' row) (hr : ∀ k, row = some k → sb < k) : Src sb n w' := by
 obtain ⟨v, bs, a, sd, h1, h2, h3, h4⟩ := h
 exact ⟨v, bs, a, sd, h1.grown hg (fun k e => Nat.le_of_lt (hr k e)), (hg.block sb h2.lt (fun e => by have := hr sb e.symm; omega)).trans h2, h3, h4⟩
theorem Src.below {sb n : Nat} {w w' : World} (h : Src sb n w) (hb : Below w.heap.size w w') : Src sb n w' := h.grown (grown_below hb none) (fun k e => by cases e)
/-- What a call that draws leaves: the source goes on; nothing else that was there has turned. -/
def Drew (sb n : Nat) (w w' : World) : Prop := w.grownBy w' (some sb) ∧ Src sb n w'
theorem Drew.trans {sb n m : Nat} {w w' w'' : World} (h : Drew sb n w w') (k : Drew sb m w' w'') : Drew sb m w w'' := ⟨grown_trans h.1 k.1, k.2⟩
theorem Drew.below {sb n : Nat} {w w' w'' : World} (h : Drew sb n w w') (hb : Below w'.heap.size w' w'') : Drew sb n w w'' := ⟨grown_trans h.1 (grown_below hb _), h.2.below hb⟩
theorem Drew.refl {sb n : Nat} {w : World} (h : Src sb n w) : Drew sb n w w := ⟨grown_refl _ _, h⟩
theorem Drew.size {sb n : Nat} {w w' : World} (h : Drew sb n w w') : w.heap.size ≤ w'.heap.size := h.1.size
theorem Drew.mono {sb n m : Nat} {w w' : World} (h : Drew sb n w w') (hm : n ≤ m) : Drew sb m w w' := ⟨h.1, h.2.mono hm⟩
theorem Drew.slice {α : Type} {k : Nat} {enc : α → List Value} {sb n lo : Nat} {w w' : World} {v : Value} {xs : List α} (h : Drew sb n w w') (hs : SliceK k enc lo w v xs) (hlo : sb < lo) : SliceK k enc lo w' v xs := hs.grown h.1 (fun j e => by cases e; exact hlo)
theorem Drew.own {sb n base e size m : Nat} {w w' : World} {v : Value} {xs : List Value} (h : Drew sb n w w') (ho : w.ownsRow base e size v m xs) (hlo : sb < base) : w'.ownsRow base e size v m xs := ho.kept h.1 (by
 cases hv : v.ownBlock with
 | none => exact .inl rfl
 | some b => exact .inr fun k => by have := (ho.lt b hv).1; have := Option.some.inj k; omega)
theorem Drew.blk {sb n b : Nat} {w w' : World} {cs : List Value} {t : TypeId} (h : Drew sb n w w') (hb : Blk w b cs t) (hne : b ≠ sb) : Blk w' b cs t := (h.1.block b hb.lt (fun e => hne (Option.some.inj e))).trans hb

theorem Drew.grown {sb n : Nat} {w w1 w2 : World} {row : Option Nat} (h : Drew sb n w w1) (hg : w1.grownBy w2 row) (hr : ∀ k, row = some k → w.heap.size ≤ k) (hsb : sb < w.heap.size) : Drew sb n w w2 :=
 ⟨⟨hg.os.trans h.1.os, hg.tape.trans h.1.tape, hg.output.trans h.1.output, Nat.le_trans h.1.size hg.size, fun k hk hne => (hg.block k (Nat.lt_of_lt_of_le hk h.1.size) (fun e => by have := hr k e.symm; omega)).trans (h.1.block k hk hne)⟩, h.2.grown hg (fun k e => Nat.lt_of_lt_of_le hsb (hr k e))⟩
theorem Drew.alloc {sb n : Nat} {w w1 : World} (h : Drew sb n w w1) (o : Obj) : Drew sb n w (w1.alloc o) := h.below ((Below.refl _ _).alloc (Nat.le_refl _) _)
theorem wrapU64 (x : Int) : 0 ≤ IntKind.u64.wrap x ∧ IntKind.u64.wrap x < 18446744073709551616 := by
 simp [IntKind.wrap, IntKind.bits, IntKind.signed]
 omega

theorem and255 (x : Int) : 0 ≤ wrap64 (bits BinOp.and IntKind.u64 x 255) ∧ wrap64 (bits BinOp.and IntKind.u64 x 255) ≤ 255 := by
 have h : ∃ n : Nat, n ≤ 255 ∧ bits BinOp.and IntKind.u64 x 255 = IntKind.u64.wrap (n : Int) := by
  refine ⟨(BitVec.ofInt IntKind.u64.bits x &&& BitVec.ofInt IntKind.u64.bits 255).toNat, ?_, rfl⟩
  rw [BitVec.toNat_and]
  have h2 : (BitVec.ofInt IntKind.u64.bits 255).toNat = 255 := by decide
  rw [h2]
  exact Nat.and_le_right
 obtain ⟨n, hn, e⟩ := h
 have h2 : IntKind.u64.wrap (n : Int) = n := by
  simp [IntKind.wrap, IntKind.bits, IntKind.signed]
  omega
 rw [e, h2]
 unfold wrap64
 omega

set_option maxRecDepth 100000 in
set_option maxHeartbeats 1000000 in
theorem next_any (sb n : Nat) (w : World) (hs : Src sb n w) (hn : n ≤ 1000000000) :
  Calls Tryz.prog 60 #[.pointer (some ⟨sb, 0, none⟩)] w fun e w' => ∃ x : Int, e = .returned (.int .i64 x) ∧ 0 ≤ x ∧ x ≤ 255 ∧ Drew sb (n + 1) w w' := by
 obtain ⟨v, bs, a, sd, hbi, hblk, ha, hs0, hs1⟩ := hs
 have HBI := Lib.hid hbi
 obtain ⟨ap, c, rfl, hl, hrow⟩ := hbi
 have c0 := hblk.cell 0 rfl
 have c1 := hblk.cell 1 rfl
 have c2 := hblk.cell 2 rfl
 have f1 := hblk.frozen 1
 have f2 := hblk.frozen 2
 have hlt := hblk.lt
 have HB := Lib.hid hblk
 have l0 := later_cell hlt c0
 have l1 := later_cell hlt c1
 have HEND : Hid (∀ (v0 : World) (z : Int), Below w.heap.size w v0 → 0 ≤ z → z < 18446744073709551616 → Drew sb (n + 1) w ((v0.setCell ⟨sb, 1, none⟩ (.int .i64 ((a : Int) + 1))).setCell ⟨sb, 2, none⟩ (.int .u64 z)) ∧ Blk ((v0.setCell ⟨sb, 1, none⟩ (.int .i64 ((a : Int) + 1))).setCell ⟨sb, 2, none⟩ (.int .u64 z)) sb [.slice ap bs.length c, .int .i64 ((a : Int) + 1), .int .u64 z] 60) := by
  intro v0 z hb0 hz0 hz1
  have hb2 : Blk ((v0.setCell ⟨sb, 1, none⟩ (.int .i64 ((a : Int) + 1))).setCell ⟨sb, 2, none⟩ (.int .u64 z)) sb [.slice ap bs.length c, .int .i64 ((a : Int) + 1), .int .u64 z] 60 := (((hblk.below hb0).set 1 (.int .i64 ((a : Int) + 1))).set 2 (.int .u64 z))
  have hg : w.grownBy ((v0.setCell ⟨sb, 1, none⟩ (.int .i64 ((a : Int) + 1))).setCell ⟨sb, 2, none⟩ (.int .u64 z)) (some sb) := grown_trans (grown_below hb0 _) (grown_trans (grown_setCell v0 ⟨sb, 1, none⟩ _) (grown_setCell _ ⟨sb, 2, none⟩ _))
  exact ⟨⟨hg, _, bs, a + 1, z, HBI.out.grown hg (fun k e => by cases e; exact Nat.le_refl _), hb2, by omega, hz0, hz1⟩, hb2⟩
 have HLF : Hid (∀ v0 : World, Below w.heap.size w v0 → (∀ z (g : Later ((v0.setCell ⟨sb, 1, none⟩ (.int .i64 ((a : Int) + 1))).setCell ⟨sb, 2, none⟩ (.int .u64 z))), g.w.cell? ⟨sb, 0, none⟩ = some (.slice ap bs.length c) ∧ g.w.cell? ⟨sb, 1, none⟩ = some (.int .i64 ((a : Int) + 1)) ∧ g.w.cell? ⟨sb, 2, none⟩ = some (.int .u64 z))) := by
  intro v0 hb0 z g
  have hb2 : Blk ((v0.setCell ⟨sb, 1, none⟩ (.int .i64 ((a : Int) + 1))).setCell ⟨sb, 2, none⟩ (.int .u64 z)) sb [.slice ap bs.length c, .int .i64 ((a : Int) + 1), .int .u64 z] 60 := (((hblk.below hb0).set 1 (.int .i64 ((a : Int) + 1))).set 2 (.int .u64 z))
  have hb3 := hb2.below g.h
  exact ⟨hb3.cell 0 rfl, hb3.cell 1 rfl, hb3.cell 2 rfl⟩
 obtain ⟨N, hN⟩ : ∃ N, N = bs.length := ⟨_, rfl⟩
 by_cases h1 : a < N
 ·have h2 : a < bs.length := by omega
  rcases hrow with h0 | ⟨b, o, rfl, hbs, hbw, hc⟩
  ·omega
  have hca := hc a h2
  obtain ⟨y, hy⟩ : ∃ y, y = bs[a].toNat := ⟨_, rfl⟩
  have hy1 : y < 256 := by rw [hy]; exact bs[a].toNat_lt
  rw [← hy] at hca
  rw [← hN] at c0 l0 HEND HB HLF hl
  clear hc hblk hy HBI h2 hN
  have HCA := Lib.hid hca
  go_enter Tryz.func60, Tryz.ntmps60
  go_wp2
  refine wp_region_later (by kernel_rfl) (by kernel_rfl) ?_
  repeat (go_big_quiet_step ((fail)))
  refine wpQuiet_nil ?_
  intro _ hw9
  obtain ⟨nl, hw8⟩ := hw9
  subst hw8
  obtain ⟨w1, hw1⟩ : ∃ w1, w1 = nl.w := ⟨_, rfl⟩
  have hb1 : Below w.heap.size w w1 := by rw [hw1]; exact nl.h
  rw [← hw1]
  clear hw1 nl l0 l1 c0 c1 c2 f1 f2 hca
  have hlt1 : sb < w1.heap.size := Nat.lt_of_lt_of_le hlt hb1.size
  have hbw1 : b < w1.heap.size := Nat.lt_of_lt_of_le hbw hb1.size
  have l0 := later_cell hlt1 ((HB.out.below hb1).cell 0 rfl)
  have l1 := later_cell hlt1 ((HB.out.below hb1).cell 1 rfl)
  have l2 := later_cell hbw1 ((hb1.cell hbw).trans HCA.out)
  go_wp2
  refine wp_region_later (by kernel_rfl) (by kernel_rfl) ?_
  repeat (go_big_quiet_step ((fail)))
  refine wpQuiet_nil ?_
  intro _ hw9
  obtain ⟨nl, hw8⟩ := hw9
  subst hw8
  obtain ⟨w2, hw2⟩ : ∃ w2, w2 = nl.w := ⟨_, rfl⟩
  have hb2 : Below w.heap.size w w2 := by rw [hw2]; exact hb1.trans (nl.h.mono hb1.size)
  rw [← hw2]
  clear hw2 nl l0 l1 l2
  have hlt2 : sb < w2.heap.size := Nat.lt_of_lt_of_le hlt hb2.size
  have c0 := (HB.out.below hb2).cell 0 rfl
  have c1 := (HB.out.below hb2).cell 1 rfl
  have c2 := (HB.out.below hb2).cell 2 rfl
  have f1 := (HB.out.below hb2).frozen 1
  have f2 := (HB.out.below hb2).frozen 2
  have HEN2 := Lib.hid (fun z => HEND.out w2 z hb2)
  have m0 := fun z g => (HLF.out w2 hb2 z g).1
  have m1 := fun z g => (HLF.out w2 hb2 z g).2.1
  clear HEND HLF
  go_wp2
  refine wp_region_later (by kernel_rfl) (by kernel_rfl) ?_
  repeat (go_big_quiet_step ((fail)))
  refine wpQuiet_nil ?_
  intro _ hw9
  obtain ⟨nl, hw8⟩ := hw9
  subst hw8
  clear m0 m1
  go_wp2
  go_ret
  exact ⟨_, rfl, by omega, by omega, (HEN2.out _ (wrapU64 _).1 (wrapU64 _).2).1.below nl.h⟩
 ·rw [← hN] at c0 l0 HEND HB HLF hl
  clear hrow hblk HBI hN
  go_enter Tryz.func60, Tryz.ntmps60
  go_wp2
  refine wp_region_later (by kernel_rfl) (by kernel_rfl) ?_
  repeat (go_big_quiet_step ((fail)))
  refine wpQuiet_nil ?_
  intro _ hw9
  obtain ⟨nl, hw8⟩ := hw9
  subst hw8
  obtain ⟨w2, hw2⟩ : ∃ w2, w2 = nl.w := ⟨_, rfl⟩
  have hb2 : Below w.heap.size w w2 := by rw [hw2]; exact nl.h
  rw [← hw2]
  clear hw2 nl l0 l1 c0 c1 c2 f1 f2
  have hlt2 : sb < w2.heap.size := Nat.lt_of_lt_of_le hlt hb2.size
  have c0 := (HB.out.below hb2).cell 0 rfl
  have c1 := (HB.out.below hb2).cell 1 rfl
  have c2 := (HB.out.below hb2).cell 2 rfl
  have f1 := (HB.out.below hb2).frozen 1
  have f2 := (HB.out.below hb2).frozen 2
  have HEN2 := Lib.hid (fun z => HEND.out w2 z hb2)
  have m0 := fun z g => (HLF.out w2 hb2 z g).1
  have m1 := fun z g => (HLF.out w2 hb2 z g).2.1
  have m2 := fun z g => (HLF.out w2 hb2 z g).2.2
  clear HEND HLF
  go_wp2
  refine wp_region_later (by kernel_rfl) (by kernel_rfl) ?_
  repeat (go_big_quiet_step ((fail)))
  refine wpQuiet_nil ?_
  intro _ hw9
  obtain ⟨nl, hw8⟩ := hw9
  subst hw8
  clear m0 m1
  go_wp2
  go_ret
  exact ⟨_, rfl, (and255 _).1, (and255 _).2, (HEN2.out _ (wrapU64 _).1 (wrapU64 _).2).1.below nl.h⟩

set_option maxRecDepth 100000 in
set_option maxHeartbeats 1000000 in
theorem pick_any (sb n : Nat) (N : Int) (w : World) (hs : Src sb n w) (hn : n ≤ 999999990) (hN : N ≤ 1000000000) :
  Calls Tryz.prog 29 #[.pointer (some ⟨sb, 0, none⟩), .int .i64 N] w fun e w' => ∃ x : Int, e = .returned (.int .i64 x) ∧ 0 ≤ x ∧ (N ≤ 1 → x = 0) ∧ (1 ≤ N → x < N) ∧ Drew sb (n + 2) w w' := by
 have HS := Lib.hid hs
 by_cases h1 : N ≤ 1
 ·clear hs
  go_enter Tryz.func29, Tryz.ntmps29
  go_wp2
  go_ret
  exact ⟨0, rfl, Int.le_refl _, fun _ => rfl, fun h => by omega, Drew.refl (HS.out.mono (by omega))⟩
 ·have HN1 := Lib.hid (next_any sb n w hs (by omega))
  by_cases h2 : 200 < N
  ·clear hs
   go_enter Tryz.func29, Tryz.ntmps29
   go_wp2_with fail
   refine Calls.mono HN1.out ?_
   rintro e w1 ⟨x, rfl, hx0, hx1, hd⟩
   have HD := Lib.hid hd
   have HN2 := Lib.hid (next_any sb (n + 1) w1 hd.2 (by omega))
   clear hd HN1
   go_wp2_with fail
   refine Calls.mono HN2.out ?_
   rintro e w2 ⟨y, rfl, hy0, hy1, hd⟩
   have HD2 := Lib.hid (HD.out.trans hd)
   clear hd HN2
   go_wp2
   go_ret
   exact ⟨_, rfl, Int.emod_nonneg _ (by omega), fun h => by omega, fun _ => Int.emod_lt_of_pos _ (by omega), HD2.out⟩
  ·clear hs
   go_enter Tryz.func29, Tryz.ntmps29
   go_wp2_with fail
   refine Calls.mono HN1.out ?_
   rintro e w1 ⟨x, rfl, hx0, hx1, hd⟩
   have HD := Lib.hid hd
   clear hd HN1
   go_wp2
   go_ret
   exact ⟨_, rfl, Int.emod_nonneg _ (by omega), fun h => by omega, fun _ => Int.emod_lt_of_pos _ (by omega), HD.out.mono (by omega)⟩

theorem one_any (sb n : Nat) (N : Int) (w : World) (hs : Src sb n w) (hn : n ≤ 999999990) (hN : N ≤ 1000000000) :
  Calls Tryz.prog 27 #[.pointer (some ⟨sb, 0, none⟩), .int .i64 N] w fun e w' => ∃ b : Bool, e = .returned (.bool b) ∧ Drew sb (n + 2) w w' := by
 have HP := Lib.hid (pick_any sb n N w hs hn hN)
 clear hs
 go_enter Tryz.func27, Tryz.ntmps27
 go_wp2_with fail
 refine Calls.mono HP.out ?_
 rintro e w1 ⟨x, rfl, hx0, -, -, hd⟩
 have HD := Lib.hid hd
 clear hd HP
 go_wp2
 go_ret
 exact ⟨_, rfl, HD.out⟩

set_option maxHeartbeats 1000000 in
theorem among_any (sb n lo : Nat) (v : Value) (xs : List Int) (w : World) (hs : Src sb n w) (hn : n ≤ 999999990) (hv : SliceK 1 encI lo w v xs) (hlo : sb < lo) (h0 : 0 < xs.length) (hz : xs.length ≤ 1000000) :
  Calls Tryz.prog 85 #[.pointer (some ⟨sb, 0, none⟩), v] w fun e w' => ∃ x ∈ xs, e = .returned (.int .i64 x) ∧ Drew sb (n + 2) w w' := by
 have HP := Lib.hid (pick_any sb n xs.length w hs hn (by omega))
 have HV := Lib.hid hv
 obtain ⟨a, c, rfl, -, -, -⟩ := hv
 obtain ⟨N, hN⟩ : ∃ N, N = xs.length := ⟨_, rfl⟩
 have HNN := Lib.hid hN
 rw [← hN] at HP HV h0 hz ⊢
 clear hs hN
 go_enter Tryz.func85, Tryz.ntmps85
 go_wp2_with fail
 refine Calls.mono HP.out ?_
 rintro e w1 ⟨x, rfl, hx0, -, hxN, hd⟩
 have HD := Lib.hid hd
 have hxl := hxN (by omega)
 obtain ⟨k, rfl⟩ : ∃ k : Nat, x = (k : Int) := ⟨x.toNat, by omega⟩
 have hk : k < xs.length := by rw [← HNN.out]; omega
 obtain ⟨a2, c2, e2, -, -, hrow⟩ := hd.slice HV.out hlo
 simp only [Value.slice.injEq] at e2
 obtain ⟨rfl, -, rfl⟩ := e2
 obtain ⟨b1, o1, rfl, -, hb1, c1⟩ := hrow.one hk
 simp only [encI, List.getElem?_cons_zero] at c1
 obtain ⟨y, hy⟩ : ∃ y, y = xs[k] := ⟨_, rfl⟩
 rw [← hy] at c1
 have HY : Hid (y ∈ xs) := by unfold Hid; rw [hy]; exact List.getElem_mem hk
 clear hd hrow hy hk HP
 go_wp2
 go_ret
 exact ⟨y, HY.out, rfl, HD.out⟩

set_option maxHeartbeats 1000000 in
theorem textOf_any (sb n lo : Nat) (v : Value) (xs : List ByteArray) (w : World) (hs : Src sb n w) (hn : n ≤ 999999990) (hv : SliceK 1 encS lo w v xs) (hlo : sb < lo) (h0 : 0 < xs.length) (hz : xs.length ≤ 1000000) :
  Calls Tryz.prog 31 #[.pointer (some ⟨sb, 0, none⟩), v] w fun e w' => ∃ x ∈ xs, e = .returned (.string x) ∧ Drew sb (n + 2) w w' := by
 have HP := Lib.hid (pick_any sb n xs.length w hs hn (by omega))
 have HV := Lib.hid hv
 obtain ⟨a, c, rfl, -, -, -⟩ := hv
 obtain ⟨N, hN⟩ : ∃ N, N = xs.length := ⟨_, rfl⟩
 have HNN := Lib.hid hN
 rw [← hN] at HP HV h0 hz ⊢
 clear hs hN
 go_enter Tryz.func31, Tryz.ntmps31
 go_wp2_with fail
 refine Calls.mono HP.out ?_
 rintro e w1 ⟨x, rfl, hx0, -, hxN, hd⟩
 have HD := Lib.hid hd
 have hxl := hxN (by omega)
 obtain ⟨k, rfl⟩ : ∃ k : Nat, x = (k : Int) := ⟨x.toNat, by omega⟩
 have hk : k < xs.length := by rw [← HNN.out]; omega
 obtain ⟨a2, c2, e2, -, -, hrow⟩ := hd.slice HV.out hlo
 simp only [Value.slice.injEq] at e2
 obtain ⟨rfl, -, rfl⟩ := e2
 obtain ⟨b1, o1, rfl, -, hb1, c1⟩ := hrow.one hk
 simp only [encS, List.getElem?_cons_zero] at c1
 obtain ⟨y, hy⟩ : ∃ y, y = xs[k] := ⟨_, rfl⟩
 rw [← hy] at c1
 have HY : Hid (y ∈ xs) := by unfold Hid; rw [hy]; exact List.getElem_mem hk
 clear hd hrow hy hk HP
 go_wp2
 go_ret
 exact ⟨y, HY.out, rfl, HD.out⟩

end Go.Proofs.YtnmkncioekdehaaGreatDoor

namespace Go.Proofs.YtnmkncioekdehaaGreatDoor
open Go Go.ChangeShapes Go.WideShapes Go.ChangeAt Go.RowKit

theorem cellsU : Tryz.prog.cellsOf 5 = 1 := by kernel_rfl
set_option maxRecDepth 100000 in
theorem open_bytesA {H : Type} {enc : TypeId × Value → H} {W : World} {v : Value} {d : DataW H} {ps : List MemPlace} {base : Nat} (hval : Value.okWide Tryz.prog W .any base 22 v) (h : DataW.Trod enc Tryz.prog W 0 (fun _ => true) true 22 v d ps) :
  ∃ (a0 : Option Addr) (N c0 : Nat) (bs : List UInt8), v = .slice a0 N c0 ∧ N = bs.length ∧ (N ≤ 1048576 → BytesIn W.heap.size W (.slice a0 N c0) bs) := by
 obtain ⟨a, len, cap, rfl⟩ := okWide_slice Tryz.underlying22 hval
 obtain ⟨fuel, hf⟩ := h
 rcases Go.ChangeShapes.open_ints Tryz.underlying22 Tryz.underlying5 cellsU hf with ⟨hc, -⟩ | ⟨a1, len1, cap1, zs, hc, -, hl, hm, hzl, -, hcell, hwf⟩
 ·simp [Value.cells] at hc
  obtain ⟨rfl, rfl, rfl⟩ := hc
  exact ⟨none, 0, 0, [], rfl, rfl, fun _ => ⟨none, 0, rfl, by simp, .inl rfl⟩⟩
 ·simp [Value.cells] at hc
  obtain ⟨rfl, rfl, rfl⟩ := hc
  have hz : zs.length = cap := by simpa using hzl
  have hlen : ((zs.take len).map fun z => UInt8.ofNat z.toNat).length = len := by
   rw [List.length_map, List.length_take]
   omega
  refine ⟨_, len, cap, (zs.take len).map fun z => UInt8.ofNat z.toNat, rfl, hlen.symm, fun hN => ?_⟩
  refine ⟨_, cap, by rw [hlen], by rw [hlen]; omega, ?_⟩
  by_cases h0 : len = 0
  ·exact .inl (by rw [hlen]; exact h0)
  ·have h1 := hcell 0 (by omega)
   have h2 : a1.add 0 = a1 := by unfold Addr.add; rw [if_pos rfl]
   rw [h2] at h1
   have hs := spot_none h1
   have hlt := World.block_lt_of_cell? _ _ h1
   obtain ⟨b, o, s⟩ := a1
   simp only [Addr.mk.injEq, true_and] at hs
   subst hs
   refine .inr ⟨b, o, rfl, hlt, hlt, fun i hi => ?_⟩
   rw [hlen] at hi
   have h3 := hcell i (by omega)
   rw [Lib.add_plain] at h3
   rw [h3]
   have hi2 : i < zs.length := by omega
   have hb := Go.bounds_u8 (hwf zs[i] (List.getElem_mem hi2))
   have hg : zs.getD i 0 = zs[i] := by rw [List.getD_eq_getElem?_getD, List.getElem?_eq_getElem hi2]; rfl
   rw [hg]
   congr 2
   rw [List.getElem_map, List.getElem_take]
   have : zs[i].toNat < 256 := by omega
   rw [UInt8.toNat_ofNat_of_lt' (by simpa using this)]
   omega

end Go.Proofs.YtnmkncioekdehaaGreatDoor

namespace Go.Proofs.YtnmkncioekdehaaGreatDoor
open Go Go.RowKit

def txts (xs : List ByteArray) : List Value := xs.map Value.string
/-- A list of texts of the call's own. -/
def OwnStrs (lo : Nat) (w : World) (v : Value) (xs : List ByteArray) : Prop := w.ownsRow lo 9 1 v xs.length (txts xs)
theorem OwnStrs.below {lo : Nat} {w w' : World} {v : Value} {xs : List ByteArray} (h : OwnStrs lo w v xs) (hb : Below w.heap.size w w') : OwnStrs lo w' v xs := owns_below h hb
theorem OwnStrs.lower {lo lo' : Nat} {w : World} {v : Value} {xs : List ByteArray} (h : OwnStrs lo w v xs) (hl : lo' ≤ lo) : OwnStrs lo' w v xs := own_lower h hl
theorem OwnStrs.at {lo : Nat} {w : World} {v : Value} {xs : List ByteArray} (h : OwnStrs lo w v xs) : SliceK 1 encS lo w v xs := SliceK.of_owns (e := 9) encS_len rfl (by rw [flat_encS]; exact h)
theorem txts_len (xs : List ByteArray) : (txts xs).length = xs.length := by simp [txts]
end Go.Proofs.YtnmkncioekdehaaGreatDoor

namespace Go.Proofs.YtnmkncioekdehaaGreatDoor
open Go Go.RowKit

theorem info_strD : (Tryz.prog.info? 9).map (fun i => (i.zero, i.size, i.bytes)) = some (some (.string ⟨#[]⟩), 1, 16) := by kernel_rfl
/-- The names that are drawn. -/
def nmA : ByteArray := ⟨#[97]⟩
def nmB : ByteArray := ⟨#[98]⟩
def nmC : ByteArray := ⟨#[99]⟩
def nmG0 : ByteArray := ⟨#[103, 101, 116, 40, 48, 41]⟩
def nmG1 : ByteArray := ⟨#[103, 101, 116, 40, 49, 41]⟩
def nmT : ByteArray := ⟨#[116, 97, 117]⟩
def nmL : List ByteArray := [nmA, nmB, nmC, nmG0, nmG1]
def nmAll : List ByteArray := nmT :: nmL
theorem strs_lit {w : World} {cs : Array Value} {xs : List ByteArray} (h : cs.toList = txts xs) (hm : xs.length ≤ 1000) : OwnStrs w.heap.size (w.alloc (.cells cs 9)) (.slice (some ⟨w.heap.size, 0, none⟩) xs.length xs.length) xs := by
 have hl : cs.size = xs.length := by rw [← Array.length_toList, h, txts_len]
 unfold OwnStrs
 rw [← h]
 exact World.ownsRow_lit (size := 1) w cs xs.length (Nat.le_refl _) (by simp [maxLen]; omega) (by rw [hl, Nat.mul_one])
theorem Blk.far {w w' : World} {b : Nat} {cs : List Value} {t : TypeId} {row : Option Nat} (h : Blk w b cs t) (hg : w.grownBy w' row) (hne : row ≠ some b) : Blk w' b cs t := (hg.block b h.lt (fun e => hne e.symm)).trans h
theorem txt_cell {w : World} {b k : Nat} {xs : List ByteArray} (h : Blk w b (txts xs) 9) (hk : k < xs.length) : w.cell? ⟨b, k, none⟩ = some (.string xs[k]) := h.cell k (by unfold txts; rw [List.getElem?_map, List.getElem?_eq_getElem hk]; rfl)

set_option maxRecDepth 100000 in
set_option maxHeartbeats 1000000 in
theorem drawNames_any (sb n : Nat) (w : World) (hs : Src sb n w) (hn : n ≤ 999990000) :
  Calls Tryz.prog 111 #[.pointer (some ⟨sb, 0, none⟩)] w fun e w' => ∃ (v : Value) (ls : List ByteArray), e = .returned v ∧ Drew sb (n + 10) w w' ∧ OwnStrs w.heap.size w' v ls ∧ 2 ≤ ls.length ∧ ls.length ≤ 7 ∧ ∀ l ∈ ls, l ∈ nmAll := by
 obtain ⟨i0, hi0, hz0, hz1, hz2⟩ := info_parts info_strD
 have hsb := hs.lt
 obtain ⟨lb, hlb⟩ : ∃ lb, lb = w.heap.size + 1 := ⟨_, rfl⟩
 obtain ⟨W, hW⟩ : ∃ W, W = (w.alloc (.cells #[.string nmT] 9)).alloc (.cells #[.string nmA, .string nmB, .string nmC, .string nmG0, .string nmG1] 9) := ⟨_, rfl⟩
 have HD0 : Hid (Drew sb n w W) := by unfold Hid; rw [hW]; exact ((Drew.refl hs).alloc _).alloc _
 have HO0 : Hid (OwnStrs w.heap.size W (.slice (some ⟨w.heap.size, 0, none⟩) 1 1) [nmT]) := by unfold Hid; rw [hW]; exact (strs_lit (w := w) (xs := [nmT]) rfl (by decide)).below ((Below.refl _ _).alloc (Nat.le_refl _) _)
 have HL0 : Hid (Blk W lb (txts nmL) 9) := by
  have h := Blk.new (w.alloc (.cells #[.string nmT] 9)) (txts nmL) 9
  rw [World.size_alloc, ← hlb] at h
  unfold Hid
  rw [hW]
  exact h
 have HW : Hid (W = (w.alloc (.cells #[.string ⟨#[116, 97, 117]⟩] 9)).alloc (.cells #[.string ⟨#[97]⟩, .string ⟨#[98]⟩, .string ⟨#[99]⟩, .string ⟨#[103, 101, 116, 40, 48, 41]⟩, .string ⟨#[103, 101, 116, 40, 49, 41]⟩] 9)) := hW
 have HLB := Lib.hid hlb
 clear hs hW hlb
 go_enter Tryz.func111, Tryz.ntmps111
 go_wp2_with fail
 rw [← HW.out]
 rw [← HLB.out]
 go_loopw [3, 5] (fun v3 v5 wr => ∃ (k : Nat) (ls : List ByteArray) (g c : Nat), k ≤ 5 ∧ v3 = .slice (some ⟨g, 0, none⟩) ls.length c ∧ v5 = .int .i64 k ∧ Drew sb (n + 2 * k) w wr ∧ OwnStrs w.heap.size wr (.slice (some ⟨g, 0, none⟩) ls.length c) ls ∧ Blk wr lb (txts nmL) 9 ∧ g ≠ lb ∧ 1 ≤ ls.length ∧ ls.length ≤ k + 1 ∧ ∀ l ∈ ls, l ∈ nmAll) (fun _ v5 _ => 5 - (intOf v5).toNat)
 case atStart => exact ⟨0, [nmT], w.heap.size, 1, Nat.zero_le _, rfl, rfl, HD0.out, HO0.out, HL0.out, by rw [HLB.out]; omega, by simp, by simp, fun l hl => by rw [List.mem_singleton] at hl; rw [hl]; simp [nmAll]⟩
 case round =>
  clear HD0 HO0 HL0
  obtain ⟨k, ls, g, c, hk, rfl, rfl, hd, ho, hl, hgl, hl1, hlk, hmem⟩ := hrel
  obtain ⟨wC, rfl⟩ : ∃ wC : World, wC = wr := ⟨_, rfl⟩
  have HD := Lib.hid hd
  have HO := Lib.hid ho
  have HL := Lib.hid hl
  have HM := Lib.hid hmem
  have HGL := Lib.hid hgl
  have hszC : w.heap.size ≤ wC.heap.size := hd.size
  clear hd ho hl hmem hgl
  by_cases hlt : k < 5
  ·have hk5 : k < nmL.length := hlt
   have HONE := Lib.hid (one_any sb (n + 2 * k) 2 wC HD.out.2 (by omega) (by decide))
   go_wp2_with fail
   refine Calls.mono HONE.out ?_
   rintro e w1 ⟨b, rfl, hd1⟩
   have HD1 : Hid (Drew sb (n + 2 * (k + 1)) w w1) := (HD.out.trans hd1).mono (by omega)
   have HO1 : Hid (OwnStrs w.heap.size w1 (.slice (some ⟨g, 0, none⟩) ls.length c) ls) := hd1.own HO.out hsb
   have HL1 : Hid (Blk w1 lb (txts nmL) 9) := hd1.blk HL.out (by rw [HLB.out]; omega)
   have hsz1 : w.heap.size ≤ w1.heap.size := HD1.out.size
   have c1 := txt_cell HL1.out hk5
   obtain ⟨x, hx⟩ : ∃ x, x = nmL[k] := ⟨_, rfl⟩
   rw [← hx] at c1
   have HX : Hid (x ∈ nmAll) := by unfold Hid nmAll; rw [hx]; exact List.mem_cons_of_mem _ (List.getElem_mem hk5)
   clear hd1 HONE hx HD HO HL hk5
   cases b
   ·go_wp2
    go_roundw
    case rel => exact ⟨k + 1, ls, g, c, by omega, rfl, by go_num, HD1.out, HO1.out, HL1.out, HGL.out, hl1, by omega, HM.out⟩
    case measure => simp [intOf]; omega
   ·by_cases h4 : ls.length < 4
    ·have h4i : (ls.length : Int) < 4 := by omega
     go_wp2_with (at_builtin; refine wpList_append_lies _ rfl _ _ 24 rfl w.heap.size 9 i0 (.string ⟨#[]⟩) 1 16 Tryz.underlying24 hi0 hz0 hz1 hz2 rfl (by decide) _ _ _ rfl (HO1.out.alloc _) ⟨w1.heap.size, 0, none⟩ 1 1 [.string x] rfl rfl ?c1 ?c2 ?c3 ?c4 ?c5 ?c6 _ rfl ?_)
     case c1 => exact World.news_of_block (cs := #[.string x]) (t := 9) (fr := (0, 0)) (heap_alloc_new _ _)
     case c2 => intro u hu; simp at hu; subst hu; rfl
     case c3 => omega
     case c4 => simp [maxLen]; omega
     case c5 => omega
     case c6 => simp; omega
     intro g3 cap3 w3 ho3 hg3 hat3 hlt3
     have HD3 : Hid (Drew sb (n + 2 * (k + 1)) w w3) := (HD1.out.alloc _).grown hg3 (fun j e => (HO1.out.lt j e).1) hsb
     have HL3 : Hid (Blk w3 lb (txts nmL) 9) := (HL1.out.alloc _).far hg3 (fun e => HGL.out (Option.some.inj e))
     have HO3 : Hid (OwnStrs w.heap.size w3 (.slice (some ⟨g3, 0, none⟩) (ls ++ [x]).length cap3) (ls ++ [x])) := by
      unfold Hid OwnStrs txts
      rw [List.map_append, List.length_append]
      exact ho3
     have HG3 : Hid (g3 ≠ lb) := by
      rcases hat3 with e | e
      ·have : g = g3 := Option.some.inj e
       unfold Hid
       rw [← this]
       exact HGL.out
      ·unfold Hid
       have := HL1.out.lt
       rw [e]
       omega
     clear ho3 hg3 hat3 hlt3
     go_wp2
     go_roundw
     case rel => exact ⟨k + 1, ls ++ [x], g3, cap3, by omega, by simp, by go_num, HD3.out, HO3.out, HL3.out, HG3.out, by simp, by simp; omega, fun l hl => by
      rcases List.mem_append.1 hl with h | h
      ·exact HM.out l h
      ·rw [List.mem_singleton] at h; rw [h]; exact HX.out⟩
     case measure => simp [intOf]; omega
    ·have h4i : ¬ (ls.length : Int) < 4 := by omega
     go_wp2
     go_roundw
     case rel => exact ⟨k + 1, ls, g, c, by omega, rfl, by go_num, HD1.out, HO1.out, HL1.out, HGL.out, hl1, by omega, HM.out⟩
     case measure => simp [intOf]; omega
  ·by_cases h1 : ls.length = 1
   ·have h1i : ((ls.length : Int) == 1) = true := by rw [h1]; rfl
    go_wp2_with (at_builtin; refine wpList_append_own _ rfl _ _ 24 rfl w.heap.size 9 i0 (.string ⟨#[]⟩) 1 16 Tryz.underlying24 hi0 hz0 hz1 hz2 rfl (by decide) _ _ _ rfl (HO.out.alloc _) ⟨wC.heap.size, 0, none⟩ 1 1 [.string nmA] rfl rfl ?c1 ?c2 ?c3 ?c4 ?c5 ?_)
    case c1 => exact World.news_of_block (cs := #[.string nmA]) (t := 9) (fr := (0, 0)) (heap_alloc_new _ _)
    case c2 => intro u hu; simp at hu; subst hu; rfl
    case c3 => simp [maxLen]; omega
    case c4 => omega
    case c5 => simp; omega
    intro v3 w3 ho3 hg3 _
    have HD3 : Hid (Drew sb (n + 10) w w3) := ((HD.out.alloc _).grown hg3 (fun j e => (HO.out.lt j e).1) hsb).mono (by omega)
    have HO3 : Hid (OwnStrs w.heap.size w3 v3 (ls ++ [nmA])) := by
     unfold Hid OwnStrs txts
     rw [List.map_append, List.length_append, h1]
     exact ho3
    clear ho3 hg3
    go_wp2
    go_ret
    exact ⟨v3, ls ++ [nmA], rfl, HD3.out, HO3.out, by simp; omega, by simp; omega, fun l hl => by
     rcases List.mem_append.1 hl with h | h
     ·exact HM.out l h
     ·rw [List.mem_singleton] at h; rw [h]; simp [nmAll, nmL]⟩
   ·have h1i : ((ls.length : Int) == 1) = false := by simp; omega
    go_wp2
    go_ret
    exact ⟨_, ls, rfl, HD.out.mono (by omega), HO.out, by omega, by omega, HM.out⟩

end Go.Proofs.YtnmkncioekdehaaGreatDoor

namespace Go.Proofs.YtnmkncioekdehaaGreatDoor
open Go Go.RowKit

def small (c : UInt8) : Bool := decide (97 ≤ (c.toNat : Int)) && decide ((c.toNat : Int) ≤ 122)
def digit (c : UInt8) : Bool := decide (48 ≤ (c.toNat : Int)) && decide ((c.toNat : Int) ≤ 57)
def okc (c : UInt8) : Bool := small c || digit c
/-- 1 to 10 small letters or digits, the first of them a letter. -/
def isName (l : List UInt8) : Bool := decide (l.length ≤ 10) && (l.head?.any small && l.all okc)
def tauL : List UInt8 := [116, 97, 117]
def isAction (l : List UInt8) : Bool := isName l && !(l == tauL)

/-- The value of digits. -/
def valFrom (n : Nat) (l : List UInt8) : Nat := l.foldl (fun n c => 10 * n + (c.toNat - 48)) n

/-- The number with these digits, at most 18, without leading zeros. -/
def numDs (neg : Bool) (ds : List UInt8) : Option Int :=
 if ds.length = 0 ∨ 18 < ds.length ∨ (ds.head? = some 48 ∧ (neg = true ∨ 1 < ds.length)) ∨ ds.all digit = false then none
 else some (if neg then - (valFrom 0 ds : Int) else valFrom 0 ds)
/-- The number with a decimal form of at most 18 digits. -/
def numB (l : List UInt8) : Option Int :=
 if l.head? = some 45 then numDs true l.tail else numDs false l

/-- The parts between the bytes c. -/
def splitAt (c : UInt8) : List UInt8 → List (List UInt8)
 | [] => [[]]
 | x :: r =>
  match splitAt c r with
  | [] => [[]]
  | p :: ps => if x == c then [] :: p :: ps else (x :: p) :: ps

theorem len_data (s : ByteArray) : s.data.toList.length = s.size := (Lib.size_eq s).symm
theorem get_data (s : ByteArray) (k : Nat) (_h : k < s.size) (h' : k < s.data.toList.length) : s.data.toList[k] = s[k] := rfl
theorem head_data (s : ByteArray) (h : 0 < s.size) : s.data.toList.head? = some s[0] := by
 rw [List.head?_eq_getElem?, List.getElem?_eq_getElem (by rw [len_data]; exact h)]; rfl
theorem isName_long {l : List UInt8} (h : 10 < l.length) : isName l = false := by unfold isName; rw [decide_eq_false (by omega)]; rfl
theorem isName_head {s : ByteArray} (h : 0 < s.size) (hb : small s[0] = false) : isName s.data.toList = false := by
 unfold isName; rw [head_data s h]; simp [hb]
theorem isName_bad {s : ByteArray} {k : Nat} (h : k < s.size) (h1 : small s[k] = false) (h2 : digit s[k] = false) : isName s.data.toList = false := by
 unfold isName
 have : s.data.toList.all okc = false := by
  rw [List.all_eq_false]
  exact ⟨s[k], by rw [← get_data s k h (by rw [len_data]; exact h)]; exact List.getElem_mem _, by simp [okc, h1, h2]⟩
 rw [this]; simp
theorem isName_good {s : ByteArray} (h0 : 0 < s.size) (h1 : ¬ 10 < s.size) (hb : small s[0] = true) (ha : ∀ j (h : j < s.size), okc s[j] = true) : isName s.data.toList = true := by
 unfold isName
 rw [head_data s h0, decide_eq_true (by rw [len_data]; omega)]
 simp only [Option.any_some, hb, Bool.true_and, List.all_eq_true]
 intro x hx
 obtain ⟨j, hj, rfl⟩ := List.mem_iff_getElem.1 hx
 exact ha j (by rw [← len_data]; exact hj)

theorem data_inj {a b : ByteArray} (h : a.data.toList = b.data.toList) : a = b := by
 obtain ⟨⟨a⟩⟩ := a; obtain ⟨⟨b⟩⟩ := b; simp at h; rw [h]
theorem extract_data' (s : ByteArray) (a b : Nat) : (s.extract a b).data.toList = (s.data.toList.drop a).take (b - a) := by
 rw [← Lib.toList_data, Lib.extract_toList]

theorem splitAt_ne (c : UInt8) (l : List UInt8) : splitAt c l ≠ [] := by
 cases l with
 | nil => simp [splitAt]
 | cons x r => unfold splitAt; split <;> (try simp) ; split <;> simp
theorem splitAt_none {c : UInt8} {l : List UInt8} (h : ∀ x ∈ l, (x == c) = false) : splitAt c l = [l] := by
 induction l with
 | nil => rfl
 | cons x r ih =>
  unfold splitAt
  rw [ih (fun y hy => h y (List.mem_cons_of_mem _ hy))]
  simp [h x List.mem_cons_self]
theorem splitAt_hit {c : UInt8} {a b : List UInt8} (h : ∀ x ∈ a, (x == c) = false) : splitAt c (a ++ c :: b) = a :: splitAt c b := by
 induction a with
 | nil =>
  rw [List.nil_append]
  conv => lhs; unfold splitAt
  cases hb : splitAt c b with
  | nil => exact absurd hb (splitAt_ne c b)
  | cons p ps => simp
 | cons x r ih =>
  rw [List.cons_append]
  conv => lhs; unfold splitAt
  rw [ih (fun y hy => h y (List.mem_cons_of_mem _ hy))]
  simp [h x List.mem_cons_self]

/-- No byte c from place m up to place k. -/
def clean (c : UInt8) (l : List UInt8) (m k : Nat) : Prop := ∀ j (h : j < l.length), m ≤ j → j < k → (l[j] == c) = false
theorem split_step {c : UInt8} {l : List UInt8} {m k : Nat} (hm : m ≤ k) (hk : k < l.length) (hc : clean c l m k) (he : (l[k] == c) = true) :
  splitAt c (l.drop m) = (l.drop m).take (k - m) :: splitAt c (l.drop (k + 1)) := by
 have e : l.drop m = (l.drop m).take (k - m) ++ c :: l.drop (k + 1) := by
  have h1 : (l.drop m).drop (k - m) = l[k] :: l.drop (k + 1) := by
   rw [List.drop_drop, show m + (k - m) = k from by omega, List.drop_eq_getElem_cons hk]
  have he' : l[k] = c := by simpa using he
  rw [he'] at h1
  rw [← h1, List.take_append_drop]
 conv => lhs; rw [e]
 refine splitAt_hit fun x hx => ?_
 obtain ⟨j, hj, rfl⟩ := List.mem_iff_getElem.1 hx
 simp only [List.length_take, List.length_drop] at hj
 simp only [List.getElem_take, List.getElem_drop]
 exact hc (m + j) (by omega) (by omega) (by omega)
theorem split_end {c : UInt8} {l : List UInt8} {m : Nat} (hc : clean c l m l.length) : splitAt c (l.drop m) = [l.drop m] := by
 refine splitAt_none fun x hx => ?_
 obtain ⟨j, hj, rfl⟩ := List.mem_iff_getElem.1 hx
 simp only [List.length_drop] at hj
 simp only [List.getElem_drop]
 exact hc (m + j) (by omega) (by omega) (by omega)
theorem splitAt_len (c : UInt8) (l : List UInt8) : (splitAt c l).length ≤ l.length + 1 := by
 induction l with
 | nil => simp [splitAt]
 | cons x r ih =>
  unfold splitAt
  cases hb : splitAt c r with
  | nil => simp
  | cons p ps =>
   rw [hb] at ih
   simp only [List.length_cons] at ih ⊢
   split <;> simp <;> omega

def openAt (l : List UInt8) : Nat := l.findIdx (fun c => c == 40)

theorem valFrom_nil (n : Nat) : valFrom n [] = n := by unfold valFrom; exact List.foldl_nil
theorem valFrom_cons (n : Nat) (c : UInt8) (r : List UInt8) : valFrom n (c :: r) = valFrom (10 * n + (c.toNat - 48)) r := by unfold valFrom; exact List.foldl_cons ..
theorem valFrom_append (n : Nat) (a b : List UInt8) : valFrom n (a ++ b) = valFrom (valFrom n a) b := by simp [valFrom]
theorem valFrom_lt (ds : List UInt8) (n : Nat) (h : ds.all digit = true) : valFrom n ds < (n + 1) * 10 ^ ds.length := by
 induction ds generalizing n with
 | nil => simp [valFrom_nil]
 | cons x r ih =>
  simp only [List.all_cons, Bool.and_eq_true] at h
  have hd : x.toNat ≤ 57 := by
   have := h.1
   simp only [digit, Bool.and_eq_true, decide_eq_true_eq] at this
   omega
  have h2 := ih (10 * n + (x.toNat - 48)) h.2
  rw [valFrom_cons, List.length_cons, Nat.pow_succ, Nat.mul_comm (10 ^ r.length) 10, ← Nat.mul_assoc]
  generalize 10 ^ r.length = q at *
  exact Nat.lt_of_lt_of_le h2 (Nat.mul_le_mul_right _ (by omega))
theorem val_small {ds : List UInt8} (h : ds.all digit = true) (hl : ds.length ≤ 17) : valFrom 0 ds ≤ 99999999999999999 := by
 have h1 := valFrom_lt ds 0 h
 have h2 : 10 ^ ds.length ≤ 10 ^ 17 := Nat.pow_le_pow_right (by omega) hl
 omega
theorem val_small18 {ds : List UInt8} (h : ds.all digit = true) (hl : ds.length ≤ 18) : valFrom 0 ds ≤ 999999999999999999 := by
 have h1 := valFrom_lt ds 0 h
 have h2 : 10 ^ ds.length ≤ 10 ^ 18 := Nat.pow_le_pow_right (by omega) hl
 omega
/-- One digit more. -/
theorem val_step {l : List UInt8} {a k : Nat} (hak : a ≤ k) (hk : k < l.length) : valFrom 0 ((l.drop a).take (k + 1 - a)) = 10 * valFrom 0 ((l.drop a).take (k - a)) + (l[k].toNat - 48) := by
 rw [show k + 1 - a = (k - a) + 1 from by omega, List.take_succ_eq_append_getElem (by simp; omega), valFrom_append]
 simp only [valFrom_cons, valFrom_nil, List.getElem_drop, show a + (k - a) = k from by omega]
theorem all_step {l : List UInt8} {a k : Nat} (hak : a ≤ k) (hk : k < l.length) (h : ((l.drop a).take (k - a)).all digit = true) (hd : digit l[k] = true) : ((l.drop a).take (k + 1 - a)).all digit = true := by
 rw [show k + 1 - a = (k - a) + 1 from by omega, List.take_succ_eq_append_getElem (by simp; omega), List.all_append, h]
 simp only [List.all_cons, List.all_nil, Bool.and_true, List.getElem_drop, show a + (k - a) = k from by omega, hd]
theorem all_bad {l : List UInt8} {a k : Nat} (hak : a ≤ k) (hk : k < l.length) (hd : digit l[k] = false) : (l.drop a).all digit = false := by
 rw [List.all_eq_false]
 refine ⟨l[k], ?_, by simp [hd]⟩
 have : (l.drop a)[k - a]'(by simp; omega) = l[k] := by simp [List.getElem_drop, show a + (k - a) = k from by omega]
 rw [← this]
 exact List.getElem_mem _

def numOk (l : List UInt8) : Bool :=
 match numB l with
 | none => false
 | some n => decide (0 ≤ n) && decide (n ≤ 63)
/-- What stands between the parentheses of a label, parted at commas. -/
def labelParts (l : List UInt8) : List (List UInt8) := splitAt 44 ((l.drop (openAt l + 1)).take (l.length - 1 - (openAt l + 1)))
def labelOk (l : List UInt8) : Bool :=
 if openAt l = l.length then isName l
 else isAction (l.take (openAt l)) && ((l.getLast? == some 41) && ((labelParts l).all numOk && decide ((labelParts l).length ≤ 2)))
def labelVals (l : List UInt8) : List Int := if openAt l = l.length then [] else (labelParts l).map fun p => (numB p).getD 0

theorem openAt_le (l : List UInt8) : openAt l ≤ l.length := List.findIdx_le_length
theorem openAt_get {l : List UInt8} (h : openAt l < l.length) : l[openAt l] = 40 := by
 have := List.findIdx_getElem (w := h)
 unfold openAt at *
 simpa using this
theorem last_data {s : ByteArray} (h : 0 < s.size) : s.data.toList.getLast? = some s[s.size - 1] := by
 rw [List.getLast?_eq_getElem?, List.getElem?_eq_getElem (by rw [len_data]; omega)]
 rfl
theorem u8_eq {a : UInt8} {n : Nat} {b : UInt8} (hb : b.toNat = n) (h : ((a.toNat : Int) == (n : Int)) = true) : a = b := by
 have : (a.toNat : Int) = n := by simpa using h
 exact UInt8.toNat_inj.1 (by omega)
theorem u8_ne {a : UInt8} {n : Nat} {b : UInt8} (hb : b.toNat = n) (h : ((a.toNat : Int) == (n : Int)) = false) : a ≠ b := by
 intro e
 subst e
 rw [hb] at h
 simp at h

theorem splitAt_mem {c : UInt8} {l p : List UInt8} (h : p ∈ splitAt c l) : p.length ≤ l.length := by
 induction l generalizing p with
 | nil => simp [splitAt] at h; simp [h]
 | cons x r ih =>
  unfold splitAt at h
  cases hb : splitAt c r with
  | nil => exact absurd hb (splitAt_ne c r)
  | cons q qs =>
   rw [hb] at h ih
   simp only at h
   split at h
   ·rcases List.mem_cons.1 h with rfl | h
    ·simp
    ·exact Nat.le_succ_of_le (ih h)
   ·rcases List.mem_cons.1 h with rfl | h
    ·have := ih (p := q) List.mem_cons_self; simp; exact this
    ·exact Nat.le_succ_of_le (ih (List.mem_cons_of_mem _ h))
theorem all_none {ps : List ByteArray} {j : Nat} (h : j < ps.length) (hn : numOk ps[j].data.toList = false) : (ps.map (fun s => s.data.toList)).all numOk = false := by
 rw [List.all_eq_false]
 exact ⟨ps[j].data.toList, List.mem_map.2 ⟨ps[j], List.getElem_mem _, rfl⟩, by simp [hn]⟩

end Go.Proofs.YtnmkncioekdehaaGreatDoor
