/-
  Plain notions for the proofs of this seat: how slices, labelled transition systems and their edges lie in memory, and how such facts are carried from one world to a later one.
  An argument of a system's type, opened: what its reading says of the cells behind it.
  The source of choices: its state in memory, and what its methods draw: numbers below the bound, and nothing else turns.
  An argument that is a list of bytes, opened.
  Texts as lists of bytes: names, numbers and labels. Plain definitions; no program in sight.
  What the reference's functions on texts and labels compute.
  What the reference's functions on labels compute.
  Labelled transition systems: what makes them valid, the edges from a state. Plain definitions; no program in sight.
  What the reference's functions on systems compute: whether they are valid and deterministic.
  What the reference's functions on systems compute: whether they are valid and deterministic.
  The pairs that can stay: the sweeps that both texts make over the pairs, in place. Plain definitions; no program in sight.
  What a call makes: lists of numbers, of edges; the true places of a list.
  The reference's place of a text among texts.
  The reference's place of a number among numbers.
  The library's slices.Index at numbers: the first place, or -1.
  The program's closure of part: where a state stands among those that are kept.
-/
import Derived.WalkKit
import Derived.WalkSpells
import Derived.WalkLawsBesides
import Derived.Lib.Hide
import Derived.BigQuiet
import Derived.Deep.QuietTactic
import Derived.Deep.LoopGhost
import Derived.ProofKit
import Derived.Lib.ItoaMem
import Derived.OpenShut
import Derived.Deep.Strs
import Derived.Deep.Slices
import Derived.Test.YtdkbbknhighebaaGreatDoorProg
import Derived.ChangeSlices
import Derived.Lib.Strings
import Derived.Lib.Bytes
import Derived.Test.YtdkbbknhighebaaGreatDoorRows
import Derived.IntWalk
import Derived.Laws.EntriesVeiled
namespace Go.Proofs.YtdkbbknhighebaaGreatDoor
open Go Go.RowKit

structure Edge where
 src : Int
 lab : Int
 dst : Int
 deriving DecidableEq

structure Lts where
 states : Int
 initial : Int
 labels : List ByteArray
 edges : List Edge

/-- The elements xs of a slice with the address a lie in one block, from lo on, each in k cells. -/
def RowK {α : Type} (k : Nat) (enc : α → List Value) (lo : Nat) (w : World) (a : Option Addr) (xs : List α) : Prop :=
 xs.length = 0 ∨ ∃ b off, a = some ⟨b, off, none⟩ ∧ lo ≤ b ∧ b < w.heap.size ∧ ∀ i (h : i < xs.length) j, j < k → w.cell? ⟨b, off + i * k + j, none⟩ = (enc xs[i])[j]?

/-- A slice's value that holds the elements xs. -/
def SliceK {α : Type} (k : Nat) (enc : α → List Value) (lo : Nat) (w : World) (v : Value) (xs : List α) : Prop :=
 ∃ a cap, v = .slice a xs.length cap ∧ xs.length ≤ cap ∧ cap ≤ 9223372036854775807 ∧ RowK k enc lo w a xs

theorem RowK.below {α : Type} {k : Nat} {enc : α → List Value} {lo : Nat} {w w' : World} {a : Option Addr} {xs : List α} (h : RowK k enc lo w a xs) (hb : Below w.heap.size w w') : RowK k enc lo w' a xs := by
 rcases h with h | ⟨b, off, ha, h1, h2, h3⟩
 ·exact .inl h
 ·exact .inr ⟨b, off, ha, h1, Nat.lt_of_lt_of_le h2 hb.size, fun i hi j hj => by rw [hb.cell h2]; exact h3 i hi j hj⟩

theorem SliceK.below {α : Type} {k : Nat} {enc : α → List Value} {lo : Nat} {w w' : World} {v : Value} {xs : List α} (h : SliceK k enc lo w v xs) (hb : Below w.heap.size w w') : SliceK k enc lo w' v xs := by
 obtain ⟨a, cap, h1, h2, h4, h3⟩ := h
 exact ⟨a, cap, h1, h2, h4, h3.below hb⟩

theorem RowK.mono {α : Type} {k : Nat} {enc : α → List Value} {lo lo' : Nat} {w : World} {a : Option Addr} {xs : List α} (h : RowK k enc lo w a xs) (hl : lo' ≤ lo) : RowK k enc lo' w a xs := by
 rcases h with h | ⟨b, off, ha, h1, h2, h3⟩
 ·exact .inl h
 ·exact .inr ⟨b, off, ha, Nat.le_trans hl h1, h2, h3⟩

theorem SliceK.mono {α : Type} {k : Nat} {enc : α → List Value} {lo lo' : Nat} {w : World} {v : Value} {xs : List α} (h : SliceK k enc lo w v xs) (hl : lo' ≤ lo) : SliceK k enc lo' w v xs := by
 obtain ⟨a, cap, h1, h2, h4, h3⟩ := h
 exact ⟨a, cap, h1, h2, h4, h3.mono hl⟩

/-- An element's one cell. -/
def encI (n : Int) : List Value := [.int .i64 n]
def encS (s : ByteArray) : List Value := [.string s]
def encE (e : Edge) : List Value := [.int .i64 e.src, .int .i64 e.lab, .int .i64 e.dst]
theorem RowK.one {α : Type} {enc : α → List Value} {lo : Nat} {w : World} {a : Option Addr} {xs : List α} (h : RowK 1 enc lo w a xs) {i : Nat} (hi : i < xs.length) :
  ∃ b off, a = some ⟨b, off, none⟩ ∧ lo ≤ b ∧ b < w.heap.size ∧ w.cell? ⟨b, off + i, none⟩ = (enc xs[i])[0]? := by
 rcases h with h | ⟨b, off, ha, h1, h2, h3⟩
 ·omega
 ·exact ⟨b, off, ha, h1, h2, by have := h3 i hi 0 (by omega); simpa using this⟩

theorem RowK.edge {lo : Nat} {w : World} {a : Option Addr} {xs : List Edge} (h : RowK 3 encE lo w a xs) {i : Nat} (hi : i < xs.length) :
  ∃ b off, a = some ⟨b, off, none⟩ ∧ lo ≤ b ∧ b < w.heap.size ∧ w.cell? ⟨b, off + i * 3, none⟩ = some (.int .i64 xs[i].src) ∧ w.cell? ⟨b, off + i * 3 + 1, none⟩ = some (.int .i64 xs[i].lab) ∧ w.cell? ⟨b, off + i * 3 + 2, none⟩ = some (.int .i64 xs[i].dst) := by
 rcases h with h | ⟨b, off, ha, h1, h2, h3⟩
 ·omega
 ·exact ⟨b, off, ha, h1, h2, by have := h3 i hi 0 (by omega); simpa [encE] using this, by have := h3 i hi 1 (by omega); simpa [encE] using this, by have := h3 i hi 2 (by omega); simpa [encE] using this⟩

/-- A cell of an old block, later. -/
theorem keeps {B : Nat} {w w' : World} (h : Below B w w') {b o : Nat} {v : Value} (hb : b < B) (hc : w.cell? ⟨b, o, none⟩ = some v) : w'.cell? ⟨b, o, none⟩ = some v :=
 (h.cell (p := ⟨b, o, none⟩) hb).trans hc

theorem ret_int {k : IntKind} {a b : Int} (h : a = b) : Ending.returned (.int k a) = .returned (.int k b) := by rw [h]
theorem ret_bool {a b : Bool} (h : a = b) : Ending.returned (.bool a) = .returned (.bool b) := by rw [h]

/-- The value of a system (a struct). -/
def LtsAt (lo : Nat) (w : World) (v : Value) (t : Lts) : Prop :=
 ∃ lv ev, v = .agg #[.int .i64 t.states, .int .i64 t.initial, lv, ev] ∧ SliceK 1 encS lo w lv t.labels ∧ SliceK 3 encE lo w ev t.edges

theorem LtsAt.below {lo : Nat} {w w' : World} {v : Value} {t : Lts} (h : LtsAt lo w v t) (hb : Below w.heap.size w w') : LtsAt lo w' v t := by
 obtain ⟨lv, ev, h1, h2, h3⟩ := h
 exact ⟨lv, ev, h1, h2.below hb, h3.below hb⟩

theorem drews {B : Nat} {a w : World} (h : Below B a w) (n : Nat) : Below B a (w.drewN n) := ⟨h.os, h.tape, h.output, h.size, h.block⟩

/-- A later world: what was there when the heap was that of w0 is as it was. -/
structure Later (w0 : World) where
 w : World
 h : Below w0.heap.size w0 w

instance (w : World) : Nonempty (Later w) := ⟨⟨w, Below.refl _ _⟩⟩

/-- A region that draws its order and whose operations read, or call functions that turn nothing that was there: walked once. -/
theorem wp_region_later {P : Program} {id : Nat} {Q : Exit → Act → World → Prop} {a : Act} {w : World} {l : List Oper} (hm : P.follows .mixedOrders = true) (hB : Region.lexB .any l.toArray = true)
  (h : wpQuiet P l.toArray (fun w' => ∃ g : Later w, w' = g.w) (fun a' => ∀ w', (∃ g : Later w, w' = g.w) → Q .normal a' w') l a) : (Code.region id l.toArray true).wp P Q a w :=
 wp_region_quiet (C := fun w' => ∃ g : Later w, w' = g.w) hm hB ⟨⟨_, (Below.refl _ w).drew⟩, rfl⟩ (by simpa using h)

theorem later_call {P : Program} {f : FuncId} {args : Array Value} {w0 : World} {g : Later w0} {v : Value}
  (h : Calls P f args g.w fun e w' => e = .returned v ∧ Below g.w.heap.size g.w w') : Calls P f args g.w fun e w'' => e = .returned v ∧ ∃ g' : Later w0, w'' = g'.w :=
 h.mono fun _ w' ⟨he, hb⟩ => ⟨he, ⟨⟨w', g.h.trans (hb.mono g.h.size)⟩, rfl⟩⟩

theorem later_same {P : Program} {f : FuncId} {args : Array Value} {w0 : World} {g : Later w0} {v : Value}
  (h : Calls P f args g.w fun e w' => e = .returned v ∧ g.w = w') : Calls P f args g.w fun e w'' => e = .returned v ∧ ∃ g' : Later w0, w'' = g'.w :=
 h.mono fun _ _ ⟨he, hb⟩ => ⟨he, ⟨g, hb.symm⟩⟩

/-- A fact on an old cell, in every later world. -/
theorem later_cell {w0 : World} {b o : Nat} {v : Value} (hb : b < w0.heap.size) (hc : w0.cell? ⟨b, o, none⟩ = some v) : ∀ g : Later w0, g.w.cell? ⟨b, o, none⟩ = some v :=
 fun g => keeps g.h hb hc

/-- A row of the call's own reads as a slice. -/
theorem SliceK.of_owns {α : Type} {k : Nat} {enc : α → List Value} (hk : ∀ x, (enc x).length = k) {lo e : Nat} {w : World} {v : Value} {n : Nat} {xs : List α} (hn : n = xs.length) (h : w.ownsRow lo e k v n (xs.flatMap enc)) : SliceK k enc lo w v xs := by
 subst hn
 obtain ⟨h0, ⟨rfl, h1⟩ | ⟨g, cap, cur, rfl, hg, hh, hc, hm, hs, ht⟩⟩ := h
 ·exact ⟨none, 0, by rw [h1], by omega, by omega, .inl h1⟩
 ·refine ⟨_, _, rfl, hc, by simpa [maxLen] using hm, .inr ⟨g, 0, rfl, hg, (Array.getElem?_eq_some_iff.1 hh).1, fun i hi j hj => ?_⟩⟩
  have hlt : i * k + j < xs.length * k := by
   have := Nat.mul_le_mul_right k (Nat.succ_le_of_lt hi)
   rw [Nat.succ_mul] at this
   omega
  have e1 : w.cell? ⟨g, i * k + j, none⟩ = (xs.flatMap enc)[i * k + j]? := by
   rw [cell_of_row w g _ cur e (0, 0) hh, ← ht, List.getElem?_take, if_pos hlt]
   simp
  rw [Nat.zero_add, e1]
  clear e1 hlt ht hs h0
  induction xs generalizing i with
  | nil => simp at hi
  | cons x r ih =>
   rw [List.flatMap_cons]
   cases i with
   | zero => rw [Nat.zero_mul, Nat.zero_add, List.getElem?_append_left (by rw [hk]; exact hj)]; rfl
   | succ i =>
    rw [List.getElem?_append_right (by rw [hk, Nat.succ_mul]; omega), hk, show (i + 1) * k + j - k = i * k + j from by rw [Nat.succ_mul]; omega]
    exact ih (by simp at hc ⊢; omega) _ (by simpa using hi)

theorem encI_len (n : Int) : (encI n).length = 1 := rfl
theorem encS_len (n : ByteArray) : (encS n).length = 1 := rfl
theorem encE_len (n : Edge) : (encE n).length = 3 := rfl

/-- A slice that lies elsewhere than the row that was written. -/
theorem SliceK.grown {α : Type} {k : Nat} {enc : α → List Value} {lo : Nat} {w w' : World} {row : Option Nat} {v : Value} {xs : List α} (h : SliceK k enc lo w v xs) (hg : w.grownBy w' row) (hne : ∀ k, row = some k → k < lo) : SliceK k enc lo w' v xs := by
 obtain ⟨a, cap, h1, h2, h4, h3⟩ := h
 refine ⟨a, cap, h1, h2, h4, ?_⟩
 rcases h3 with h | ⟨b, off, ha, h1, h2, h3⟩
 ·exact .inl h
 ·exact .inr ⟨b, off, ha, h1, Nat.lt_of_lt_of_le h2 hg.size, fun i hi j hj => by
   rw [World.cell?_of_block (w := w) (hg.block b h2 (fun e => by have := hne b e.symm; omega))]; exact h3 i hi j hj⟩

theorem filled_set {α : Type} (xs : List α) (f : α → Value) (z : Value) (k : Nat) (h : k < xs.length) :
  ((xs.take k).map f ++ List.replicate (xs.length - k) z).set k (f xs[k]) = (xs.take (k + 1)).map f ++ List.replicate (xs.length - (k + 1)) z := by
 have hl : ((xs.take k).map f).length = k := by simp; omega
 rw [show xs.length - k = (xs.length - (k + 1)) + 1 from by omega, List.replicate_succ, List.set_append_right _ _ (by omega), hl, Nat.sub_self, List.set_cons_zero,
  List.take_succ_eq_append_getElem h, List.map_append, List.append_assoc]
 rfl

theorem filled_get {α : Type} (xs : List α) (f : α → Value) (z : Value) (k : Nat) (h : k < xs.length) :
  ((xs.take k).map f ++ List.replicate (xs.length - k) z)[k]? = some z := by
 have hl : ((xs.take k).map f).length = k := by simp; omega
 rw [List.getElem?_append_right (by omega), hl, Nat.sub_self, List.getElem?_replicate, if_pos (by omega)]

theorem owns_below {w w' : World} {base e size n : Nat} {v : Value} {xs : List Value} (h : w.ownsRow base e size v n xs) (hb : Below w.heap.size w w') : w'.ownsRow base e size v n xs :=
 h.kept (row := none) ⟨hb.os, hb.tape, hb.output, hb.size, fun k hk _ => hb.block k hk⟩ (by cases v.ownBlock <;> simp)

theorem grown_setCell (w : World) (p : Addr) (u : Value) : w.grownBy (w.setCell p u) (some p.block) :=
 ⟨rfl, rfl, rfl, by simp, fun k _ hk => Go.RowKit.Below.heap_setCell w p u k (fun h => hk (by rw [h]))⟩

/-- A block known whole. -/
def Blk (w : World) (b : Nat) (cs : List Value) (t : TypeId) : Prop := w.heap[b]? = some (.cells cs.toArray t (0, 0))

theorem Blk.lt {w : World} {b : Nat} {cs : List Value} {t : TypeId} (h : Blk w b cs t) : b < w.heap.size := (Array.getElem?_eq_some_iff.1 h).1
theorem Blk.cell {w : World} {b : Nat} {cs : List Value} {t : TypeId} (h : Blk w b cs t) (i : Nat) {v : Value} (hi : cs[i]? = some v) : w.cell? ⟨b, i, none⟩ = some v := by
 rw [cell_of_row w b i _ t (0, 0) h]; simpa using hi
theorem Blk.frozen {w : World} {b : Nat} {cs : List Value} {t : TypeId} (h : Blk w b cs t) (i : Nat) : w.frozen? ⟨b, i, none⟩ = false := frozen_of_row w b i _ t h
theorem Blk.below {w w' : World} {b : Nat} {cs : List Value} {t : TypeId} (h : Blk w b cs t) (hb : Below w.heap.size w w') : Blk w' b cs t := (hb.block b h.lt).trans h
theorem Blk.belowB {B : Nat} {w w' : World} {b : Nat} {cs : List Value} {t : TypeId} (h : Blk w b cs t) (hb : Below B w w') (hB : b < B) : Blk w' b cs t := (hb.block b hB).trans h
theorem Blk.set {w : World} {b : Nat} {cs : List Value} {t : TypeId} (h : Blk w b cs t) (i : Nat) (v : Value) : Blk (w.setCell ⟨b, i, none⟩ v) b (cs.set i v) t := by
 have := heap_setCell_same w b i _ t v h
 unfold Blk
 rw [this]
 simp
theorem Blk.setOther {w : World} {b : Nat} {cs : List Value} {t : TypeId} (h : Blk w b cs t) (p : Addr) (v : Value) (hp : b ≠ p.block) : Blk (w.setCell p v) b cs t := (heap_setCell_other w p b v hp).trans h
theorem Blk.new (w : World) (cs : List Value) (t : TypeId) : Blk (w.alloc (.cells cs.toArray t)) w.heap.size cs t := heap_alloc_new w _
theorem Blk.alloc {w : World} {b : Nat} {cs : List Value} {t : TypeId} (h : Blk w b cs t) (o : Obj) : Blk (w.alloc o) b cs t := (Go.RowKit.Below.heap_alloc w o b h.lt).trans h

theorem grown_refl (w : World) (row : Option Nat) : w.grownBy w row := ⟨rfl, rfl, rfl, Nat.le_refl _, fun _ _ _ => rfl⟩
theorem grown_trans {a b c : World} {row : Option Nat} (h : a.grownBy b row) (k : b.grownBy c row) : a.grownBy c row :=
 ⟨k.os.trans h.os, k.tape.trans h.tape, k.output.trans h.output, Nat.le_trans h.size k.size, fun i hi hn => (k.block i (Nat.lt_of_lt_of_le hi h.size) hn).trans (h.block i hi hn)⟩
theorem grown_below {w w' : World} (hb : Below w.heap.size w w') (row : Option Nat) : w.grownBy w' row := ⟨hb.os, hb.tape, hb.output, hb.size, fun k hk _ => hb.block k hk⟩
theorem flat_encI (xs : List Int) : xs.flatMap encI = xs.map (Value.int .i64) := by
 induction xs with
 | nil => rfl
 | cons a r ih => simp [encI, ih]
theorem flat_encS (xs : List ByteArray) : xs.flatMap encS = xs.map Value.string := by
 induction xs with
 | nil => rfl
 | cons a r ih => simp [encS, ih]

theorem own_cell {w : World} {base e size g n cap : Nat} {xs : List Value} (h : w.ownsRow base e size (.slice (some ⟨g, 0, none⟩) n cap) n xs) (j : Nat) (hj : j < n * size) : ∃ v, w.cell? ⟨g, j, none⟩ = some v :=
 ⟨xs[j]'(by rw [h.1]; exact hj), by rw [h.cellAt j hj]; exact List.getElem?_eq_getElem _⟩

theorem owns_slice {w : World} {base e size n : Nat} {v : Value} {xs : List Value} (h : w.ownsRow base e size v n xs) : ∃ a c, v = .slice a n c ∧ n ≤ c ∧ c ≤ 9223372036854775807 := by
 rcases h.2 with ⟨rfl, rfl⟩ | ⟨g, cap, cur, rfl, -, -, h1, h2, -⟩
 ·exact ⟨none, 0, rfl, Nat.le_refl _, by omega⟩
 ·exact ⟨_, _, rfl, h1, by simpa [maxLen] using h2⟩

theorem own_lower {w : World} {base base' e size n : Nat} {v : Value} {xs : List Value} (h : w.ownsRow base e size v n xs) (hb : base' ≤ base) : w.ownsRow base' e size v n xs := by
 obtain ⟨h0, h | ⟨g, cap, cur, h1, h2, rest⟩⟩ := h
 ·exact ⟨h0, .inl h⟩
 ·exact ⟨h0, .inr ⟨g, cap, cur, h1, Nat.le_trans hb h2, rest⟩⟩

theorem own_types {w : World} {b1 b2 e1 e2 s1 s2 n1 n2 : Nat} {v1 v2 : Value} {x1 x2 : List Value} (h1 : w.ownsRow b1 e1 s1 v1 n1 x1) (h2 : w.ownsRow b2 e2 s2 v2 n2 x2) (he : e1 ≠ e2) : v1.ownBlock = none ∨ v1.ownBlock ≠ v2.ownBlock := by
 rcases h1.2 with ⟨rfl, -⟩ | ⟨g1, c1, u1, rfl, -, hg1, -⟩
 ·exact .inl rfl
 ·refine .inr fun e => ?_
  rcases h2.2 with ⟨rfl, -⟩ | ⟨g2, c2, u2, rfl, -, hg2, -⟩
  ·simp [Value.ownBlock] at e
  ·simp only [Value.ownBlock, Option.some.injEq] at e
   subst e
   rw [hg1] at hg2
   simp only [Option.some.injEq, Obj.cells.injEq] at hg2
   exact he hg2.2.1

end Go.Proofs.YtdkbbknhighebaaGreatDoor

namespace Go.Proofs.YtdkbbknhighebaaGreatDoor
open Go Go.ChangeShapes Go.WideShapes Go.ChangeAt Go.RowKit Go.Deep

instance instEdgeOpen : Inhabited Edge := ⟨⟨0, 0, 0⟩⟩

section
variable {H : Type} {enc : TypeId × Value → H} {P : Program} {w : World} {base : Nat} {spare : Nat → Bool} {held : Bool}

theorem spot_none {w : World} {a : Addr} {v : Value} (h : w.cell? a = some v) : a = ⟨a.block, a.off, none⟩ := by
 unfold World.cell? at h
 split at h
 ·split at h
  ·cases h
  ·next hs =>
   obtain ⟨b, o, s⟩ := a
   cases s with
   | none => rfl
   | some x => simp at hs
 ·cases h

end

end Go.Proofs.YtdkbbknhighebaaGreatDoor

namespace Go.Proofs.YtdkbbknhighebaaGreatDoor
open Go Go.RowKit


/-- Bytes that lie below a block. -/
def BytesIn (B : Nat) (w : World) (v : Value) (bs : List UInt8) : Prop :=
 ∃ (a : Option Addr) (c : Nat), v = .slice a bs.length c ∧ bs.length ≤ 1073741824 ∧ (bs.length = 0 ∨ ∃ b o, a = some ⟨b, o, none⟩ ∧ b < B ∧ b < w.heap.size ∧ ∀ i (h : i < bs.length), w.cell? ⟨b, o + i, none⟩ = some (.int .u8 (bs[i].toNat : Int)))
theorem cell_of_heap {w w' : World} {b o : Nat} (h : w'.heap[b]? = w.heap[b]?) : w'.cell? ⟨b, o, none⟩ = w.cell? ⟨b, o, none⟩ := by
 unfold World.cell?
 rw [h]
theorem BytesIn.grown {B : Nat} {w w' : World} {v : Value} {bs : List UInt8} {row : Option Nat} (h : BytesIn B w v bs) (hg : w.grownBy w' row) (hr : ∀ k, row = some k → B ≤ k) : BytesIn B w' v bs := by
 obtain ⟨a, c, rfl, hl, h0 | ⟨b, o, rfl, hb, hw, hc⟩⟩ := h
 ·exact ⟨a, c, rfl, hl, .inl h0⟩
 ·refine ⟨_, c, rfl, hl, .inr ⟨b, o, rfl, hb, Nat.lt_of_lt_of_le hw hg.size, fun i hi => ?_⟩⟩
  rw [cell_of_heap (hg.block b hw (fun e => by have := hr b e.symm; omega))]
  exact hc i hi
/-- The source: where it stands, at most n. -/
def Src (sb n : Nat) (w : World) : Prop :=
 ∃ (v : Value) (bs : List UInt8) (a : Nat) (sd : Int), BytesIn sb w v bs ∧ Blk w sb [v, .int .i64 a, .int .u64 sd] 57 ∧ a ≤ n ∧ 0 ≤ sd ∧ sd < 18446744073709551616
theorem Src.lt {sb n : Nat} {w : World} (h : Src sb n w) : sb < w.heap.size := by
 obtain ⟨v, bs, a, sd, -, h, -⟩ := h
 exact h.lt
theorem Src.mono {sb n m : Nat} {w : World} (h : Src sb n w) (hm : n ≤ m) : Src sb m w := by
 obtain ⟨v, bs, a, sd, h1, h2, h3, h4⟩ := h
 exact ⟨v, bs, a, sd, h1, h2, Nat.le_trans h3 hm, h4⟩
theorem Src.grown {sb n : Nat} {w w' : World} {row : Option Nat} (h : Src sb n w) (hg : w.grownBy w' row) (hr : ∀ k, row = some k → sb < k) : Src sb n w' := by
 obtain ⟨v, bs, a, sd, h1, h2, h3, h4⟩ := h
 exact ⟨v, bs, a, sd, h1.grown hg (fun k e => Nat.le_of_lt (hr k e)), (hg.block sb h2.lt (fun e => by have := hr sb e.symm; omega)).trans h2, h3, h4⟩
theorem Src.below {sb n : Nat} {w w' : World} (h : Src sb n w) (hb : Below w.heap.size w w') : Src sb n w' := h.grown (grown_below hb none) (fun k e => by cases e)
/-- What a call that draws leaves: the source goes on; nothing else that was there has turned. -/
def Drew (sb n : Nat) (w w' : World) : Prop := w.grownBy w' (some sb) ∧ Src sb n w'
theorem Drew.trans {sb n m : Nat} {w w' w'' : World} (h : Drew sb n w w') (k : Drew sb m w' w'') : Drew sb m w w'' := ⟨grown_trans h.1 k.1, k.2⟩
theorem Drew.below {sb n : Nat} {w w' w'' : World} (h : Drew sb n w w') (hb : Below w'.heap.size w' w'') : Drew sb n w w'' := ⟨grown_trans h.1 (grown_below hb _), h.2.below hb⟩
theorem Drew.refl {sb n : Nat} {w : World} (h : Src sb n w) : Drew sb n w w := ⟨grown_refl _ _, h⟩
theorem Drew.size {sb n : Nat} {w w' : World} (h : Drew sb n w w') : w.heap.size ≤ w'.heap.size := h.1.size
theorem Drew.mono {sb n m : Nat} {w w' : World} (h : Drew sb n w w') (hm : n ≤ m) : Drew sb m w w' := ⟨h.1, h.2.mono hm⟩
theorem Drew.slice {α : Type} {k : Nat} {enc : α → List Value} {sb n lo : Nat} {w w' : World} {v : Value} {xs : List α} (h : Drew sb n w w') (hs : SliceK k enc lo w v xs) (hlo : sb < lo) : SliceK k enc lo w' v xs := hs.grown h.1 (fun j e => by cases e; exact hlo)
theorem Drew.own {sb n base e size m : Nat} {w w' : World} {v : Value} {xs : List Value} (h : Drew sb n w w') (ho : w.ownsRow base e size v m xs) (hlo : sb < base) : w'.ownsRow base e size v m xs := ho.kept h.1 (by
 cases hv : v.ownBlock with
 | none => exact .inl rfl
 | some b => exact .inr fun k => by have := (ho.lt b hv).1; have := Option.some.inj k; omega)
theorem Drew.blk {sb n b : Nat} {w w' : World} {cs : List Value} {t : TypeId} (h : Drew sb n w w') (hb : Blk w b cs t) (hne : b ≠ sb) : Blk w' b cs t := (h.1.block b hb.lt (fun e => hne (Option.some.inj e))).trans hb

theorem Drew.grown {sb n : Nat} {w w1 w2 : World} {row : Option Nat} (h : Drew sb n w w1) (hg : w1.grownBy w2 row) (hr : ∀ k, row = some k → w.heap.size ≤ k) (hsb : sb < w.heap.size) : Drew sb n w w2 :=
 ⟨⟨hg.os.trans h.1.os, hg.tape.trans h.1.tape, hg.output.trans h.1.output, Nat.le_trans h.1.size hg.size, fun k hk hne => (hg.block k (Nat.lt_of_lt_of_le hk h.1.size) (fun e => by have := hr k e.symm; omega)).trans (h.1.block k hk hne)⟩, h.2.grown hg (fun k e => Nat.lt_of_lt_of_le hsb (hr k e))⟩
theorem Drew.alloc {sb n : Nat} {w w1 : World} (h : Drew sb n w w1) (o : Obj) : Drew sb n w (w1.alloc o) := h.below ((Below.refl _ _).alloc (Nat.le_refl _) _)
theorem wrapU64 (x : Int) : 0 ≤ IntKind.u64.wrap x ∧ IntKind.u64.wrap x < 18446744073709551616 := by
 simp [IntKind.wrap, IntKind.bits, IntKind.signed]
 omega

theorem and255 (x : Int) : 0 ≤ wrap64 (bits BinOp.and IntKind.u64 x 255) ∧ wrap64 (bits BinOp.and IntKind.u64 x 255) ≤ 255 := by
 have h : ∃ n : Nat, n ≤ 255 ∧ bits BinOp.and IntKind.u64 x 255 = IntKind.u64.wrap (n : Int) := by
  refine ⟨(BitVec.ofInt IntKind.u64.bits x &&& BitVec.ofInt IntKind.u64.bits 255).toNat, ?_, rfl⟩
  rw [BitVec.toNat_and]
  have h2 : (BitVec.ofInt IntKind.u64.bits 255).toNat = 255 := by decide
  rw [h2]
  exact Nat.and_le_right
 obtain ⟨n, hn, e⟩ := h
 have h2 : IntKind.u64.wrap (n : Int) = n := by
  simp [IntKind.wrap, IntKind.bits, IntKind.signed]
  omega
 rw [e, h2]
 unfold wrap64
 omega

set_option maxRecDepth 100000 in
set_option maxHeartbeats 1000000 in
theorem next_any (sb n : Nat) (w : World) (hs : Src sb n w) (hn : n ≤ 1000000000) :
  Calls Tryz.prog 55 #[.pointer (some ⟨sb, 0, none⟩)] w fun e w' => ∃ x : Int, e = .returned (.int .i64 x) ∧ 0 ≤ x ∧ x ≤ 255 ∧ Drew sb (n + 1) w w' := by
 obtain ⟨v, bs, a, sd, hbi, hblk, ha, hs0, hs1⟩ := hs
 have HBI := Lib.hid hbi
 obtain ⟨ap, c, rfl, hl, hrow⟩ := hbi
 have c0 := hblk.cell 0 rfl
 have c1 := hblk.cell 1 rfl
 have c2 := hblk.cell 2 rfl
 have f1 := hblk.frozen 1
 have f2 := hblk.frozen 2
 have hlt := hblk.lt
 have HB := Lib.hid hblk
 have l0 := later_cell hlt c0
 have l1 := later_cell hlt c1
 have HEND : Hid (∀ (v0 : World) (z : Int), Below w.heap.size w v0 → 0 ≤ z → z < 18446744073709551616 → Drew sb (n + 1) w ((v0.setCell ⟨sb, 1, none⟩ (.int .i64 ((a : Int) + 1))).setCell ⟨sb, 2, none⟩ (.int .u64 z)) ∧ Blk ((v0.setCell ⟨sb, 1, none⟩ (.int .i64 ((a : Int) + 1))).setCell ⟨sb, 2, none⟩ (.int .u64 z)) sb [.slice ap bs.length c, .int .i64 ((a : Int) + 1), .int .u64 z] 57) := by
  intro v0 z hb0 hz0 hz1
  have hb2 : Blk ((v0.setCell ⟨sb, 1, none⟩ (.int .i64 ((a : Int) + 1))).setCell ⟨sb, 2, none⟩ (.int .u64 z)) sb [.slice ap bs.length c, .int .i64 ((a : Int) + 1), .int .u64 z] 57 := (((hblk.below hb0).set 1 (.int .i64 ((a : Int) + 1))).set 2 (.int .u64 z))
  have hg : w.grownBy ((v0.setCell ⟨sb, 1, none⟩ (.int .i64 ((a : Int) + 1))).setCell ⟨sb, 2, none⟩ (.int .u64 z)) (some sb) := grown_trans (grown_below hb0 _) (grown_trans (grown_setCell v0 ⟨sb, 1, none⟩ _) (grown_setCell _ ⟨sb, 2, none⟩ _))
  exact ⟨⟨hg, _, bs, a + 1, z, HBI.out.grown hg (fun k e => by cases e; exact Nat.le_refl _), hb2, by omega, hz0, hz1⟩, hb2⟩
 have HLF : Hid (∀ v0 : World, Below w.heap.size w v0 → (∀ z (g : Later ((v0.setCell ⟨sb, 1, none⟩ (.int .i64 ((a : Int) + 1))).setCell ⟨sb, 2, none⟩ (.int .u64 z))), g.w.cell? ⟨sb, 0, none⟩ = some (.slice ap bs.length c) ∧ g.w.cell? ⟨sb, 1, none⟩ = some (.int .i64 ((a : Int) + 1)) ∧ g.w.cell? ⟨sb, 2, none⟩ = some (.int .u64 z))) := by
  intro v0 hb0 z g
  have hb2 : Blk ((v0.setCell ⟨sb, 1, none⟩ (.int .i64 ((a : Int) + 1))).setCell ⟨sb, 2, none⟩ (.int .u64 z)) sb [.slice ap bs.length c, .int .i64 ((a : Int) + 1), .int .u64 z] 57 := (((hblk.below hb0).set 1 (.int .i64 ((a : Int) + 1))).set 2 (.int .u64 z))
  have hb3 := hb2.below g.h
  exact ⟨hb3.cell 0 rfl, hb3.cell 1 rfl, hb3.cell 2 rfl⟩
 obtain ⟨N, hN⟩ : ∃ N, N = bs.length := ⟨_, rfl⟩
 by_cases h1 : a < N
 ·have h2 : a < bs.length := by omega
  rcases hrow with h0 | ⟨b, o, rfl, hbs, hbw, hc⟩
  ·omega
  have hca := hc a h2
  obtain ⟨y, hy⟩ : ∃ y, y = bs[a].toNat := ⟨_, rfl⟩
  have hy1 : y < 256 := by rw [hy]; exact bs[a].toNat_lt
  rw [← hy] at hca
  rw [← hN] at c0 l0 HEND HB HLF hl
  clear hc hblk hy HBI h2 hN
  have HCA := Lib.hid hca
  go_enter Tryz.func55, Tryz.ntmps55
  go_wp2
  refine wp_region_later (by kernel_rfl) (by kernel_rfl) ?_
  repeat (go_big_quiet_step ((fail)))
  refine wpQuiet_nil ?_
  intro _ hw9
  obtain ⟨nl, hw8⟩ := hw9
  subst hw8
  obtain ⟨w1, hw1⟩ : ∃ w1, w1 = nl.w := ⟨_, rfl⟩
  have hb1 : Below w.heap.size w w1 := by rw [hw1]; exact nl.h
  rw [← hw1]
  clear hw1 nl l0 l1 c0 c1 c2 f1 f2 hca
  have hlt1 : sb < w1.heap.size := Nat.lt_of_lt_of_le hlt hb1.size
  have hbw1 : b < w1.heap.size := Nat.lt_of_lt_of_le hbw hb1.size
  have l0 := later_cell hlt1 ((HB.out.below hb1).cell 0 rfl)
  have l1 := later_cell hlt1 ((HB.out.below hb1).cell 1 rfl)
  have l2 := later_cell hbw1 ((hb1.cell hbw).trans HCA.out)
  go_wp2
  refine wp_region_later (by kernel_rfl) (by kernel_rfl) ?_
  repeat (go_big_quiet_step ((fail)))
  refine wpQuiet_nil ?_
  intro _ hw9
  obtain ⟨nl, hw8⟩ := hw9
  subst hw8
  obtain ⟨w2, hw2⟩ : ∃ w2, w2 = nl.w := ⟨_, rfl⟩
  have hb2 : Below w.heap.size w w2 := by rw [hw2]; exact hb1.trans (nl.h.mono hb1.size)
  rw [← hw2]
  clear hw2 nl l0 l1 l2
  have hlt2 : sb < w2.heap.size := Nat.lt_of_lt_of_le hlt hb2.size
  have c0 := (HB.out.below hb2).cell 0 rfl
  have c1 := (HB.out.below hb2).cell 1 rfl
  have c2 := (HB.out.below hb2).cell 2 rfl
  have f1 := (HB.out.below hb2).frozen 1
  have f2 := (HB.out.below hb2).frozen 2
  have HEN2 := Lib.hid (fun z => HEND.out w2 z hb2)
  have m0 := fun z g => (HLF.out w2 hb2 z g).1
  have m1 := fun z g => (HLF.out w2 hb2 z g).2.1
  clear HEND HLF
  go_wp2
  refine wp_region_later (by kernel_rfl) (by kernel_rfl) ?_
  repeat (go_big_quiet_step ((fail)))
  refine wpQuiet_nil ?_
  intro _ hw9
  obtain ⟨nl, hw8⟩ := hw9
  subst hw8
  clear m0 m1
  go_wp2
  go_ret
  exact ⟨_, rfl, by omega, by omega, (HEN2.out _ (wrapU64 _).1 (wrapU64 _).2).1.below nl.h⟩
 ·rw [← hN] at c0 l0 HEND HB HLF hl
  clear hrow hblk HBI hN
  go_enter Tryz.func55, Tryz.ntmps55
  go_wp2
  refine wp_region_later (by kernel_rfl) (by kernel_rfl) ?_
  repeat (go_big_quiet_step ((fail)))
  refine wpQuiet_nil ?_
  intro _ hw9
  obtain ⟨nl, hw8⟩ := hw9
  subst hw8
  obtain ⟨w2, hw2⟩ : ∃ w2, w2 = nl.w := ⟨_, rfl⟩
  have hb2 : Below w.heap.size w w2 := by rw [hw2]; exact nl.h
  rw [← hw2]
  clear hw2 nl l0 l1 c0 c1 c2 f1 f2
  have hlt2 : sb < w2.heap.size := Nat.lt_of_lt_of_le hlt hb2.size
  have c0 := (HB.out.below hb2).cell 0 rfl
  have c1 := (HB.out.below hb2).cell 1 rfl
  have c2 := (HB.out.below hb2).cell 2 rfl
  have f1 := (HB.out.below hb2).frozen 1
  have f2 := (HB.out.below hb2).frozen 2
  have HEN2 := Lib.hid (fun z => HEND.out w2 z hb2)
  have m0 := fun z g => (HLF.out w2 hb2 z g).1
  have m1 := fun z g => (HLF.out w2 hb2 z g).2.1
  have m2 := fun z g => (HLF.out w2 hb2 z g).2.2
  clear HEND HLF
  go_wp2
  refine wp_region_later (by kernel_rfl) (by kernel_rfl) ?_
  repeat (go_big_quiet_step ((fail)))
  refine wpQuiet_nil ?_
  intro _ hw9
  obtain ⟨nl, hw8⟩ := hw9
  subst hw8
  clear m0 m1
  go_wp2
  go_ret
  exact ⟨_, rfl, (and255 _).1, (and255 _).2, (HEN2.out _ (wrapU64 _).1 (wrapU64 _).2).1.below nl.h⟩

set_option maxRecDepth 100000 in
set_option maxHeartbeats 1000000 in
theorem pick_any (sb n : Nat) (N : Int) (w : World) (hs : Src sb n w) (hn : n ≤ 999999990) (hN : N ≤ 1000000000) :
  Calls Tryz.prog 27 #[.pointer (some ⟨sb, 0, none⟩), .int .i64 N] w fun e w' => ∃ x : Int, e = .returned (.int .i64 x) ∧ 0 ≤ x ∧ (N ≤ 1 → x = 0) ∧ (1 ≤ N → x < N) ∧ Drew sb (n + 2) w w' := by
 have HS := Lib.hid hs
 by_cases h1 : N ≤ 1
 ·clear hs
  go_enter Tryz.func27, Tryz.ntmps27
  go_wp2
  go_ret
  exact ⟨0, rfl, Int.le_refl _, fun _ => rfl, fun h => by omega, Drew.refl (HS.out.mono (by omega))⟩
 ·have HN1 := Lib.hid (next_any sb n w hs (by omega))
  by_cases h2 : 200 < N
  ·clear hs
   go_enter Tryz.func27, Tryz.ntmps27
   go_wp2_with fail
   refine Calls.mono HN1.out ?_
   rintro e w1 ⟨x, rfl, hx0, hx1, hd⟩
   have HD := Lib.hid hd
   have HN2 := Lib.hid (next_any sb (n + 1) w1 hd.2 (by omega))
   clear hd HN1
   go_wp2_with fail
   refine Calls.mono HN2.out ?_
   rintro e w2 ⟨y, rfl, hy0, hy1, hd⟩
   have HD2 := Lib.hid (HD.out.trans hd)
   clear hd HN2
   go_wp2
   go_ret
   exact ⟨_, rfl, Int.emod_nonneg _ (by omega), fun h => by omega, fun _ => Int.emod_lt_of_pos _ (by omega), HD2.out⟩
  ·clear hs
   go_enter Tryz.func27, Tryz.ntmps27
   go_wp2_with fail
   refine Calls.mono HN1.out ?_
   rintro e w1 ⟨x, rfl, hx0, hx1, hd⟩
   have HD := Lib.hid hd
   clear hd HN1
   go_wp2
   go_ret
   exact ⟨_, rfl, Int.emod_nonneg _ (by omega), fun h => by omega, fun _ => Int.emod_lt_of_pos _ (by omega), HD.out.mono (by omega)⟩

theorem one_any (sb n : Nat) (N : Int) (w : World) (hs : Src sb n w) (hn : n ≤ 999999990) (hN : N ≤ 1000000000) :
  Calls Tryz.prog 26 #[.pointer (some ⟨sb, 0, none⟩), .int .i64 N] w fun e w' => ∃ b : Bool, e = .returned (.bool b) ∧ Drew sb (n + 2) w w' := by
 have HP := Lib.hid (pick_any sb n N w hs hn hN)
 clear hs
 go_enter Tryz.func26, Tryz.ntmps26
 go_wp2_with fail
 refine Calls.mono HP.out ?_
 rintro e w1 ⟨x, rfl, hx0, -, -, hd⟩
 have HD := Lib.hid hd
 clear hd HP
 go_wp2
 go_ret
 exact ⟨_, rfl, HD.out⟩

set_option maxHeartbeats 1000000 in
theorem among_any (sb n lo : Nat) (v : Value) (xs : List Int) (w : World) (hs : Src sb n w) (hn : n ≤ 999999990) (hv : SliceK 1 encI lo w v xs) (hlo : sb < lo) (h0 : 0 < xs.length) (hz : xs.length ≤ 1000000) :
  Calls Tryz.prog 54 #[.pointer (some ⟨sb, 0, none⟩), v] w fun e w' => ∃ x ∈ xs, e = .returned (.int .i64 x) ∧ Drew sb (n + 2) w w' := by
 have HP := Lib.hid (pick_any sb n xs.length w hs hn (by omega))
 have HV := Lib.hid hv
 obtain ⟨a, c, rfl, -, -, -⟩ := hv
 obtain ⟨N, hN⟩ : ∃ N, N = xs.length := ⟨_, rfl⟩
 have HNN := Lib.hid hN
 rw [← hN] at HP HV h0 hz ⊢
 clear hs hN
 go_enter Tryz.func54, Tryz.ntmps54
 go_wp2_with fail
 refine Calls.mono HP.out ?_
 rintro e w1 ⟨x, rfl, hx0, -, hxN, hd⟩
 have HD := Lib.hid hd
 have hxl := hxN (by omega)
 obtain ⟨k, rfl⟩ : ∃ k : Nat, x = (k : Int) := ⟨x.toNat, by omega⟩
 have hk : k < xs.length := by rw [← HNN.out]; omega
 obtain ⟨a2, c2, e2, -, -, hrow⟩ := hd.slice HV.out hlo
 simp only [Value.slice.injEq] at e2
 obtain ⟨rfl, -, rfl⟩ := e2
 obtain ⟨b1, o1, rfl, -, hb1, c1⟩ := hrow.one hk
 simp only [encI, List.getElem?_cons_zero] at c1
 obtain ⟨y, hy⟩ : ∃ y, y = xs[k] := ⟨_, rfl⟩
 rw [← hy] at c1
 have HY : Hid (y ∈ xs) := by unfold Hid; rw [hy]; exact List.getElem_mem hk
 clear hd hrow hy hk HP
 go_wp2
 go_ret
 exact ⟨y, HY.out, rfl, HD.out⟩

end Go.Proofs.YtdkbbknhighebaaGreatDoor

namespace Go.Proofs.YtdkbbknhighebaaGreatDoor
open Go Go.ChangeShapes Go.WideShapes Go.ChangeAt Go.RowKit


theorem cellsU : Tryz.prog.cellsOf 5 = 1 := by kernel_rfl
set_option maxRecDepth 100000 in
theorem open_bytesA {H : Type} {enc : TypeId × Value → H} {W : World} {v : Value} {d : DataW H} {ps : List MemPlace} {base : Nat} (hval : Value.okWide Tryz.prog W .any base 22 v) (h : DataW.Trod enc Tryz.prog W 0 (fun _ => true) true 22 v d ps) :
  ∃ (a0 : Option Addr) (N c0 : Nat) (bs : List UInt8), v = .slice a0 N c0 ∧ N = bs.length ∧ (N ≤ 1048576 → BytesIn W.heap.size W (.slice a0 N c0) bs) := by
 obtain ⟨a, len, cap, rfl⟩ := okWide_slice Tryz.underlying22 hval
 obtain ⟨fuel, hf⟩ := h
 rcases Go.ChangeShapes.open_ints Tryz.underlying22 Tryz.underlying5 cellsU hf with ⟨hc, -⟩ | ⟨a1, len1, cap1, zs, hc, -, hl, hm, hzl, -, hcell, hwf⟩
 ·simp [Value.cells] at hc
  obtain ⟨rfl, rfl, rfl⟩ := hc
  exact ⟨none, 0, 0, [], rfl, rfl, fun _ => ⟨none, 0, rfl, by simp, .inl rfl⟩⟩
 ·simp [Value.cells] at hc
  obtain ⟨rfl, rfl, rfl⟩ := hc
  have hz : zs.length = cap := by simpa using hzl
  have hlen : ((zs.take len).map fun z => UInt8.ofNat z.toNat).length = len := by
   rw [List.length_map, List.length_take]
   omega
  refine ⟨_, len, cap, (zs.take len).map fun z => UInt8.ofNat z.toNat, rfl, hlen.symm, fun hN => ?_⟩
  refine ⟨_, cap, by rw [hlen], by rw [hlen]; omega, ?_⟩
  by_cases h0 : len = 0
  ·exact .inl (by rw [hlen]; exact h0)
  ·have h1 := hcell 0 (by omega)
   have h2 : a1.add 0 = a1 := by unfold Addr.add; rw [if_pos rfl]
   rw [h2] at h1
   have hs := spot_none h1
   have hlt := World.block_lt_of_cell? _ _ h1
   obtain ⟨b, o, s⟩ := a1
   simp only [Addr.mk.injEq, true_and] at hs
   subst hs
   refine .inr ⟨b, o, rfl, hlt, hlt, fun i hi => ?_⟩
   rw [hlen] at hi
   have h3 := hcell i (by omega)
   rw [Lib.add_plain] at h3
   rw [h3]
   have hi2 : i < zs.length := by omega
   have hb := Go.bounds_u8 (hwf zs[i] (List.getElem_mem hi2))
   have hg : zs.getD i 0 = zs[i] := by rw [List.getD_eq_getElem?_getD, List.getElem?_eq_getElem hi2]; rfl
   rw [hg]
   congr 2
   rw [List.getElem_map, List.getElem_take]
   have : zs[i].toNat < 256 := by omega
   rw [UInt8.toNat_ofNat_of_lt' (by simpa using this)]
   omega

end Go.Proofs.YtdkbbknhighebaaGreatDoor

namespace Go.Proofs.YtdkbbknhighebaaGreatDoor
open Go Go.RowKit

def small (c : UInt8) : Bool := decide (97 ≤ (c.toNat : Int)) && decide ((c.toNat : Int) ≤ 122)
def digit (c : UInt8) : Bool := decide (48 ≤ (c.toNat : Int)) && decide ((c.toNat : Int) ≤ 57)
def okc (c : UInt8) : Bool := small c || digit c
/-- 1 to 10 small letters or digits, the first of them a letter. -/
def isName (l : List UInt8) : Bool := decide (l.length ≤ 10) && (l.head?.any small && l.all okc)
def tauL : List UInt8 := [116, 97, 117]
def isAction (l : List UInt8) : Bool := isName l && !(l == tauL)

/-- The value of digits. -/
def valFrom (n : Nat) (l : List UInt8) : Nat := l.foldl (fun n c => 10 * n + (c.toNat - 48)) n

/-- The number with these digits, at most 18, without leading zeros. -/
def numDs (neg : Bool) (ds : List UInt8) : Option Int :=
 if ds.length = 0 ∨ 18 < ds.length ∨ (ds.head? = some 48 ∧ (neg = true ∨ 1 < ds.length)) ∨ ds.all digit = false then none
 else some (if neg then - (valFrom 0 ds : Int) else valFrom 0 ds)
/-- The number with a decimal form of at most 18 digits. -/
def numB (l : List UInt8) : Option Int :=
 if l.head? = some 45 then numDs true l.tail else numDs false l

/-- The parts between the bytes c. -/
def splitAt (c : UInt8) : List UInt8 → List (List UInt8)
 | [] => [[]]
 | x :: r =>
  match splitAt c r with
  | [] => [[]]
  | p :: ps => if x == c then [] :: p :: ps else (x :: p) :: ps

theorem len_data (s : ByteArray) : s.data.toList.length = s.size := (Lib.size_eq s).symm
theorem get_data (s : ByteArray) (k : Nat) (_h : k < s.size) (h' : k < s.data.toList.length) : s.data.toList[k] = s[k] := rfl
theorem head_data (s : ByteArray) (h : 0 < s.size) : s.data.toList.head? = some s[0] := by
 rw [List.head?_eq_getElem?, List.getElem?_eq_getElem (by rw [len_data]; exact h)]; rfl
theorem isName_long {l : List UInt8} (h : 10 < l.length) : isName l = false := by unfold isName; rw [decide_eq_false (by omega)]; rfl
theorem isName_head {s : ByteArray} (h : 0 < s.size) (hb : small s[0] = false) : isName s.data.toList = false := by
 unfold isName; rw [head_data s h]; simp [hb]
theorem isName_bad {s : ByteArray} {k : Nat} (h : k < s.size) (h1 : small s[k] = false) (h2 : digit s[k] = false) : isName s.data.toList = false := by
 unfold isName
 have : s.data.toList.all okc = false := by
  rw [List.all_eq_false]
  exact ⟨s[k], by rw [← get_data s k h (by rw [len_data]; exact h)]; exact List.getElem_mem _, by simp [okc, h1, h2]⟩
 rw [this]; simp
theorem isName_good {s : ByteArray} (h0 : 0 < s.size) (h1 : ¬ 10 < s.size) (hb : small s[0] = true) (ha : ∀ j (h : j < s.size), okc s[j] = true) : isName s.data.toList = true := by
 unfold isName
 rw [head_data s h0, decide_eq_true (by rw [len_data]; omega)]
 simp only [Option.any_some, hb, Bool.true_and, List.all_eq_true]
 intro x hx
 obtain ⟨j, hj, rfl⟩ := List.mem_iff_getElem.1 hx
 exact ha j (by rw [← len_data]; exact hj)

theorem data_inj {a b : ByteArray} (h : a.data.toList = b.data.toList) : a = b := by
 obtain ⟨⟨a⟩⟩ := a; obtain ⟨⟨b⟩⟩ := b; simp at h; rw [h]
theorem splitAt_ne (c : UInt8) (l : List UInt8) : splitAt c l ≠ [] := by
 cases l with
 | nil => simp [splitAt]
 | cons x r => unfold splitAt; split <;> (try simp) ; split <;> simp
theorem splitAt_none {c : UInt8} {l : List UInt8} (h : ∀ x ∈ l, (x == c) = false) : splitAt c l = [l] := by
 induction l with
 | nil => rfl
 | cons x r ih =>
  unfold splitAt
  rw [ih (fun y hy => h y (List.mem_cons_of_mem _ hy))]
  simp [h x List.mem_cons_self]
theorem splitAt_hit {c : UInt8} {a b : List UInt8} (h : ∀ x ∈ a, (x == c) = false) : splitAt c (a ++ c :: b) = a :: splitAt c b := by
 induction a with
 | nil =>
  rw [List.nil_append]
  conv => lhs; unfold splitAt
  cases hb : splitAt c b with
  | nil => exact absurd hb (splitAt_ne c b)
  | cons p ps => simp
 | cons x r ih =>
  rw [List.cons_append]
  conv => lhs; unfold splitAt
  rw [ih (fun y hy => h y (List.mem_cons_of_mem _ hy))]
  simp [h x List.mem_cons_self]

/-- No byte c from place m up to place k. -/
def clean (c : UInt8) (l : List UInt8) (m k : Nat) : Prop := ∀ j (h : j < l.length), m ≤ j → j < k → (l[j] == c) = false
theorem split_step {c : UInt8} {l : List UInt8} {m k : Nat} (hm : m ≤ k) (hk : k < l.length) (hc : clean c l m k) (he : (l[k] == c) = true) :
  splitAt c (l.drop m) = (l.drop m).take (k - m) :: splitAt c (l.drop (k + 1)) := by
 have e : l.drop m = (l.drop m).take (k - m) ++ c :: l.drop (k + 1) := by
  have h1 : (l.drop m).drop (k - m) = l[k] :: l.drop (k + 1) := by
   rw [List.drop_drop, show m + (k - m) = k from by omega, List.drop_eq_getElem_cons hk]
  have he' : l[k] = c := by simpa using he
  rw [he'] at h1
  rw [← h1, List.take_append_drop]
 conv => lhs; rw [e]
 refine splitAt_hit fun x hx => ?_
 obtain ⟨j, hj, rfl⟩ := List.mem_iff_getElem.1 hx
 simp only [List.length_take, List.length_drop] at hj
 simp only [List.getElem_take, List.getElem_drop]
 exact hc (m + j) (by omega) (by omega) (by omega)
def openAt (l : List UInt8) : Nat := l.findIdx (fun c => c == 40)

theorem valFrom_nil (n : Nat) : valFrom n [] = n := by unfold valFrom; exact List.foldl_nil
theorem valFrom_cons (n : Nat) (c : UInt8) (r : List UInt8) : valFrom n (c :: r) = valFrom (10 * n + (c.toNat - 48)) r := by unfold valFrom; exact List.foldl_cons ..
theorem valFrom_lt (ds : List UInt8) (n : Nat) (h : ds.all digit = true) : valFrom n ds < (n + 1) * 10 ^ ds.length := by
 induction ds generalizing n with
 | nil => simp [valFrom_nil]
 | cons x r ih =>
  simp only [List.all_cons, Bool.and_eq_true] at h
  have hd : x.toNat ≤ 57 := by
   have := h.1
   simp only [digit, Bool.and_eq_true, decide_eq_true_eq] at this
   omega
  have h2 := ih (10 * n + (x.toNat - 48)) h.2
  rw [valFrom_cons, List.length_cons, Nat.pow_succ, Nat.mul_comm (10 ^ r.length) 10, ← Nat.mul_assoc]
  generalize 10 ^ r.length = q at *
  exact Nat.lt_of_lt_of_le h2 (Nat.mul_le_mul_right _ (by omega))
def numOk (l : List UInt8) : Bool :=
 match numB l with
 | none => false
 | some n => decide (0 ≤ n) && decide (n ≤ 63)
/-- What stands between the parentheses of a label, parted at commas. -/
def labelParts (l : List UInt8) : List (List UInt8) := splitAt 44 ((l.drop (openAt l + 1)).take (l.length - 1 - (openAt l + 1)))
def labelOk (l : List UInt8) : Bool :=
 if openAt l = l.length then isName l
 else isAction (l.take (openAt l)) && ((l.getLast? == some 41) && ((labelParts l).all numOk && decide ((labelParts l).length ≤ 2)))
theorem openAt_le (l : List UInt8) : openAt l ≤ l.length := List.findIdx_le_length
theorem openAt_get {l : List UInt8} (h : openAt l < l.length) : l[openAt l] = 40 := by
 have := List.findIdx_getElem (w := h)
 unfold openAt at *
 simpa using this
end Go.Proofs.YtdkbbknhighebaaGreatDoor

namespace Go.Proofs.YtdkbbknhighebaaGreatDoor
open Go Go.RowKit


theorem info_str : (Tryz.prog.info? 9).map (fun i => (i.zero, i.size, i.bytes)) = some (some (.string ⟨#[]⟩), 1, 16) := by kernel_rfl
theorem info_int64 : (Tryz.prog.info? 2).map (fun i => (i.zero, i.size, i.bytes)) = some (some (.int .i64 0), 1, 8) := by kernel_rfl

end Go.Proofs.YtdkbbknhighebaaGreatDoor

namespace Go.Proofs.YtdkbbknhighebaaGreatDoor
open Go Go.RowKit


def inB (n a b : Int) : Bool := decide (a ≤ n) && decide (n ≤ b)
end Go.Proofs.YtdkbbknhighebaaGreatDoor

namespace Go.Proofs.YtdkbbknhighebaaGreatDoor
open Go Go.RowKit

def tauB : List UInt8 := [116, 97, 117]
def strLess (a b : ByteArray) : Bool := Op.bytesLess a.toList b.toList

/-- Labels: tau, then others that are labels, strictly increasing. -/
structure LabelsOk (ls : List ByteArray) : Prop where
 pos : 0 < ls.length
 most : ls.length ≤ 12
 first : ∀ h : 0 < ls.length, ls[0].toList = tauB
 label : ∀ i (h : i < ls.length), 1 ≤ i → labelOk ls[i].data.toList = true
 other : ∀ i (h : i < ls.length), 1 ≤ i → ls[i].toList ≠ tauB
 rise : ∀ i (h : i + 1 < ls.length), 1 ≤ i → strLess ls[i] ls[i + 1] = true

def edgeLess (a b : Edge) : Bool :=
 if a.src ≠ b.src then decide (a.src < b.src) else if a.lab ≠ b.lab then decide (a.lab < b.lab) else decide (a.dst < b.dst)

structure EdgeOk (t : Lts) (e : Edge) : Prop where
 s0 : 0 ≤ e.src
 s1 : e.src < t.states
 d0 : 0 ≤ e.dst
 d1 : e.dst < t.states
 l0 : 0 ≤ e.lab
 l1 : e.lab < t.labels.length

structure Valid (t : Lts) : Prop where
 st0 : 1 ≤ t.states
 st1 : t.states ≤ 40
 in0 : 0 ≤ t.initial
 in1 : t.initial < t.states
 labels : LabelsOk t.labels
 most : t.edges.length ≤ 300
 edge : ∀ i (h : i < t.edges.length), EdgeOk t t.edges[i]
 rise : ∀ i (h : i + 1 < t.edges.length), edgeLess t.edges[i] t.edges[i + 1] = true

/-- A function that answers whether something holds, and turns nothing that was there. -/
def Decides (p : Prop) (w : World) (e : Ending) (w' : World) : Prop := ∃ b : Bool, e = .returned (.bool b) ∧ (b = true ↔ p) ∧ Below w.heap.size w w'

theorem Decides.yes {P : Program} {f : FuncId} {args : Array Value} {w : World} {p : Prop} (h : Calls P f args w (Decides p w)) (hp : p) :
  Calls P f args w fun e w' => e = .returned (.bool true) ∧ Below w.heap.size w w' :=
 h.mono fun _ _ ⟨_, he, hb, hw⟩ => ⟨by rw [he, hb.2 hp], hw⟩
theorem Decides.no {P : Program} {f : FuncId} {args : Array Value} {w : World} {p : Prop} (h : Calls P f args w (Decides p w)) (hp : ¬ p) :
  Calls P f args w fun e w' => e = .returned (.bool false) ∧ Below w.heap.size w w' :=
 h.mono fun _ _ ⟨b, he, hb, hw⟩ => ⟨by rw [he, show b = false from Bool.eq_false_iff.2 fun h => hp (hb.1 h)], hw⟩

def EdgeCells (w : World) (b o : Nat) (e : Edge) : Prop :=
 w.cell? ⟨b, o, none⟩ = some (.int .i64 e.src) ∧ w.cell? ⟨b, o + 1, none⟩ = some (.int .i64 e.lab) ∧ w.cell? ⟨b, o + 2, none⟩ = some (.int .i64 e.dst)

end Go.Proofs.YtdkbbknhighebaaGreatDoor

namespace Go.Proofs.YtdkbbknhighebaaGreatDoor
open Go Go.RowKit


set_option maxHeartbeats 1000000 in
theorem l11Less_any (ba oa bb ob : Nat) (a b : Edge) (w : World) (ha : EdgeCells w ba oa a) (hb : EdgeCells w bb ob b) :
  Calls Tryz.prog 75 #[.pointer (some ⟨ba, oa, none⟩), .pointer (some ⟨bb, ob, none⟩)] w fun e w' => e = .returned (.bool (edgeLess a b)) ∧ Below w.heap.size w w' := by
 obtain ⟨a1, a2, a3⟩ := ha
 obtain ⟨b1, b2, b3⟩ := hb
 by_cases h1 : (a.src != b.src) = true
 ·have HF : Hid (edgeLess a b = decide (a.src < b.src)) := by unfold Hid edgeLess; rw [if_pos (by simpa using h1)]
  go_enter Tryz.func75, Tryz.ntmps75
  go_wp2
  go_quiet (fail)
  go_wp2
  go_quiet (fail)
  go_wp2
  go_ret
  exact ⟨ret_bool HF.out.symm, drews (drews (Below.refl _ _) _) _⟩
 ·have h1' : (a.src != b.src) = false := by simpa using h1
  clear h1
  by_cases h2 : (a.lab != b.lab) = true
  ·have HF : Hid (edgeLess a b = decide (a.lab < b.lab)) := by unfold Hid edgeLess; rw [if_neg (by simpa using h1'), if_pos (by simpa using h2)]
   go_enter Tryz.func75, Tryz.ntmps75
   go_wp2
   go_quiet (fail)
   go_wp2
   go_quiet (fail)
   go_wp2
   go_quiet (fail)
   go_wp2
   go_ret
   exact ⟨ret_bool HF.out.symm, drews (drews (drews (Below.refl _ _) _) _) _⟩
  ·have h2' : (a.lab != b.lab) = false := by simpa using h2
   have HF : Hid (edgeLess a b = decide (a.dst < b.dst)) := by unfold Hid edgeLess; rw [if_neg (by simpa using h1'), if_neg (by simpa using h2')]
   clear h2
   go_enter Tryz.func75, Tryz.ntmps75
   go_wp2
   go_quiet (fail)
   go_wp2
   go_quiet (fail)
   go_wp2
   go_quiet (fail)
   go_wp2
   go_ret
   exact ⟨ret_bool HF.out.symm, drews (drews (drews (Below.refl _ _) _) _) _⟩

end Go.Proofs.YtdkbbknhighebaaGreatDoor

namespace Go.Proofs.YtdkbbknhighebaaGreatDoor
open Go Go.RowKit


theorem inB_iff {n a b : Int} : inB n a b = true ↔ a ≤ n ∧ n ≤ b := by unfold inB; simp
theorem inB_not {n a b : Int} (h : inB n a b = false) : ¬ (a ≤ n ∧ n ≤ b) := fun h' => by rw [inB_iff.2 h'] at h; cases h

theorem edgeOk_iff (t : Lts) (e : Edge) : EdgeOk t e ↔ (inB e.src 0 (t.states - 1) = true ∧ inB e.dst 0 (t.states - 1) = true) ∧ inB e.lab 0 ((t.labels.length : Int) - 1) = true := by
 rw [inB_iff, inB_iff, inB_iff]
 exact ⟨fun ⟨a, b, c, d, e, f⟩ => by omega, fun h => ⟨by omega, by omega, by omega, by omega, by omega, by omega⟩⟩

end Go.Proofs.YtdkbbknhighebaaGreatDoor

namespace Go.Proofs.YtdkbbknhighebaaGreatDoor
open Go Go.RowKit

/-- The text of an edge's label. -/
def labAt (t : Lts) (e : Edge) : ByteArray := t.labels.getD e.lab.toNat ByteArray.empty
def hitB (t : Lts) (q : Int) (l : ByteArray) (e : Edge) : Bool := (e.src == q) && ((labAt t e).toList == l.toList)
/-- The edges from a state. -/
def outOf (t : Lts) (k : Int) : List Edge := t.edges.filter fun e => e.src == k

end Go.Proofs.YtdkbbknhighebaaGreatDoor

namespace Go.Proofs.YtdkbbknhighebaaGreatDoor
open Go Go.RowKit


/-- A list of numbers of the call's own. -/
def MadeNums (xs : List Int) (w : World) (e : Ending) (w' : World) : Prop :=
 ∃ v, e = .returned v ∧ Below w.heap.size w w' ∧ w'.ownsRow w.heap.size 2 1 v xs.length (xs.map (Value.int .i64))

def MadeOut (t : Lts) (k : Int) (w : World) (e : Ending) (w' : World) : Prop :=
 ∃ v, e = .returned v ∧ Below w.heap.size w w' ∧ w'.ownsRow w.heap.size 47 3 v (outOf t k).length ((outOf t k).flatMap encE)

theorem info_edge2 : (Tryz.prog.info? 47).map (fun i => (i.zero, i.size, i.bytes)) = some (some (.agg #[.int .i64 0, .int .i64 0, .int .i64 0]), 3, 24) := by kernel_rfl

theorem three_new (w : World) (e : Edge) (t : TypeId) : ∀ j u, (encE e)[j]? = some u → (w.alloc (.cells #[.int .i64 e.src, .int .i64 e.lab, .int .i64 e.dst] t)).cell? ((⟨w.heap.size, 0, none⟩ : Addr).add j) = some u := by
 intro j u hu
 match j, hu with
 | 0, hu => simpa [encE, Addr.add] using hu
 | 1, hu => simpa [encE, Addr.add] using hu
 | 2, hu => simpa [encE, Addr.add] using hu
 | j + 3, hu => simp [encE] at hu

theorem getD_some {l : List Bool} {i : Nat} {b : Bool} (h : i < l.length) (hb : l.getD i false = b) : l[i]? = some b := by
 rw [List.getElem?_eq_getElem h]
 rw [List.getD_eq_getElem?_getD, List.getElem?_eq_getElem h] at hb
 exact congrArg some hb

end Go.Proofs.YtdkbbknhighebaaGreatDoor

namespace Go.Proofs.YtdkbbknhighebaaGreatDoor
open Go Go.RowKit


theorem findIdx_hit {α : Type} {p : α → Bool} {l : List α} {k : Nat} (hk : k < l.length) (h1 : ∀ j (h : j < l.length), j < k → p l[j] = false) (h2 : p l[k] = true) : l.findIdx p = k := by
 rw [List.findIdx_eq hk]
 exact ⟨h2, fun j hj => h1 j (by omega) hj⟩
theorem findIdx_none {α : Type} {p : α → Bool} {l : List α} (h1 : ∀ j (h : j < l.length), p l[j] = false) : l.findIdx p = l.length := by
 rw [List.findIdx_eq_length]
 intro x hx
 obtain ⟨j, hj, rfl⟩ := List.mem_iff_getElem.1 hx
 exact h1 j hj

/-- The first place of a text among texts, or -1. -/
def textAt (ss : List ByteArray) (s : ByteArray) : Int := if ss.findIdx (fun t => t.toList == s.toList) < ss.length then (ss.findIdx (fun t => t.toList == s.toList) : Nat) else -1

set_option maxRecDepth 100000 in
set_option maxHeartbeats 1000000 in
theorem l11Find_any (lo : Nat) (v : Value) (ss : List ByteArray) (s : ByteArray) (w : World) (hv : SliceK 1 encS lo w v ss) : Calls Tryz.prog 57 #[v, .string s] w fun e w' => e = .returned (.int .i64 (textAt ss s)) ∧ Below w.heap.size w w' := by
 obtain ⟨a, cap, rfl, hn, hcap, hrow⟩ := hv
 go_enter Tryz.func57, Tryz.ntmps57
 go_wp2
 go_loopw [5] (fun i wr => ∃ k : Nat, k ≤ ss.length ∧ i = .int .i64 k ∧ Below w.heap.size w wr ∧ ∀ j (h : j < ss.length), j < k → (ss[j].toList == s.toList) = false) (fun i _ => ss.length - (intOf i).toNat)
 case atStart => exact ⟨0, Nat.zero_le _, rfl, Below.refl _ _, fun _ _ h => by omega⟩
 case round =>
  obtain ⟨k, hk, rfl, hbl, hx⟩ := hrel
  have HX := Lib.hid hx
  have HBL := Lib.hid hbl
  have hsz := hbl.size
  clear hx
  by_cases hlt : k < ss.length
  ·obtain ⟨b, o, rfl, -, hb, c⟩ := (hrow.below hbl).one hlt
   simp only [encS, List.getElem?_cons_zero] at c
   clear hrow hbl
   cases g : (ss[k].toList == s.toList)
   ·have HG := Lib.hid g
    go_wp2
    go_roundw
    case rel => exact ⟨k + 1, by omega, by go_num, HBL.out, fun j h h' => by
      by_cases e : j = k
      ·subst e; exact HG.out
      ·exact HX.out j h (by omega)⟩
    case measure => simp [intOf]; omega
   ·have HG : Hid (textAt ss s = (k : Int)) := by
     unfold Hid textAt
     rw [findIdx_hit hlt HX.out g, if_pos hlt]
    go_wp2
    go_ret
    exact ⟨ret_int HG.out.symm, HBL.out⟩
  ·clear hrow hbl
   go_wp2
   go_ret
   refine ⟨ret_int ?_, HBL.out⟩
   unfold textAt
   rw [findIdx_none (fun j h => HX.out j h (by omega)), if_neg (by omega)]

theorem textAt_some {ss : List ByteArray} {s : ByteArray} (h : ¬ textAt ss s < 0) : ∃ n : Nat, textAt ss s = n ∧ ∃ hn : n < ss.length, ss[n].toList = s.toList := by
 unfold textAt at h ⊢
 by_cases hlt : ss.findIdx (fun t => t.toList == s.toList) < ss.length
 ·rw [if_pos hlt]
  refine ⟨_, rfl, hlt, ?_⟩
  have := List.findIdx_getElem (p := fun t : ByteArray => t.toList == s.toList) (xs := ss) (w := hlt)
  exact eq_of_beq this
 ·rw [if_neg hlt] at h
  omega
theorem textAt_neg {ss : List ByteArray} {s : ByteArray} : textAt ss s < 0 ↔ (ss.any fun t => t.toList == s.toList) = false := by
 unfold textAt
 by_cases hlt : ss.findIdx (fun t => t.toList == s.toList) < ss.length
 ·rw [if_pos hlt]
  have h1 := List.findIdx_lt_length.1 hlt
  constructor
  ·intro h; omega
  ·intro h
   rw [List.any_eq_false] at h
   obtain ⟨x, hx, hp⟩ := h1
   exact absurd hp (h x hx)
 ·rw [if_neg hlt]
  refine ⟨fun _ => ?_, fun _ => by omega⟩
  rw [List.any_eq_false]
  intro x hx hp
  exact hlt (List.findIdx_lt_length.2 ⟨x, hx, hp⟩)


end Go.Proofs.YtdkbbknhighebaaGreatDoor

namespace Go.Proofs.YtdkbbknhighebaaGreatDoor
open Go Go.RowKit


/-- The first place of a number, or -1. -/
def placeI (xs : List Int) (n : Int) : Int := if xs.findIdx (fun x => x == n) < xs.length then (xs.findIdx (fun x => x == n) : Nat) else -1
/-- The numbers below n. -/
def upI (n : Nat) : List Int := (List.range n).map fun (j : Nat) => (j : Int)
theorem upI_len (n : Nat) : (upI n).length = n := by simp [upI]
theorem upI_succ (n : Nat) : upI (n + 1) = upI n ++ [(n : Int)] := by simp [upI, List.range_succ]
end Go.Proofs.YtdkbbknhighebaaGreatDoor

namespace Go.Proofs.YtdkbbknhighebaaGreatDoor
open Go Go.RowKit


theorem placeI_hit {xs : List Int} {x : Int} {k : Nat} (hk : k < xs.length) (h : xs[k] = x) (hn : ∀ j (h : j < xs.length), j < k → xs[j] ≠ x) : placeI xs x = (k : Int) := by
 have h1 : xs.findIdx (fun y => y == x) = k := by
  rw [List.findIdx_eq hk]
  exact ⟨by rw [beq_iff_eq]; exact h, fun j hj => by rw [beq_eq_false_iff_ne]; exact hn j (by omega) hj⟩
 unfold placeI
 rw [h1, if_pos hk]
theorem placeI_none {xs : List Int} {x : Int} (hn : ∀ j (h : j < xs.length), xs[j] ≠ x) : placeI xs x = -1 := by
 unfold placeI
 rw [if_neg]
 intro h
 have h2 := List.findIdx_getElem (w := h)
 exact hn _ h (eq_of_beq h2)

set_option maxRecDepth 100000 in
set_option maxHeartbeats 1000000 in
theorem IndexP_any (lo : Nat) (v : Value) (xs : List Int) (x : Int) (w : World) (hv : SliceK 1 encI lo w v xs) :
  Calls Tryz.prog 35 #[v, .int .i64 x] w fun e w' => e = .returned (.int .i64 (placeI xs x)) ∧ w = w' := by
 obtain ⟨a, c, rfl, hcn, hcc, hrow⟩ := hv
 have HR := Lib.hid hrow
 clear hrow
 go_enter Tryz.func35, Tryz.ntmps35
 go_wp2_with fail
 go_loopw [8] (fun i wr => ∃ k : Nat, k ≤ xs.length ∧ i = .int .i64 k ∧ wr = w ∧ ∀ j (h : j < xs.length), j < k → xs[j] ≠ x) (fun i _ => xs.length - (intOf i).toNat)
 case atStart => exact ⟨0, Nat.zero_le _, rfl, rfl, fun _ _ h => by omega⟩
 case round =>
  obtain ⟨k, hk, rfl, rfl, ha⟩ := hrel
  have HA := Lib.hid ha
  clear ha
  by_cases hlt : k < xs.length
  ·obtain ⟨b1, o1, rfl, -, hbs, c1⟩ := HR.out.one hlt
   simp only [encI, List.getElem?_cons_zero] at c1
   obtain ⟨y, hy⟩ : ∃ y, y = xs[k] := ⟨_, rfl⟩
   rw [← hy] at c1
   have HY := Lib.hid hy
   by_cases hxy : x = y
   ·have HP : Hid (placeI xs x = (k : Int)) := placeI_hit hlt (by rw [← HY.out, hxy]) fun j h hj => HA.out j h hj
    have hb : ((x : Int) == y) = true := beq_iff_eq.2 hxy
    clear hxy hy
    go_wp2_with fail
    go_ret
    exact ⟨ret_int HP.out.symm, by first | rfl | trivial⟩
   ·have hb : ((x : Int) == y) = false := beq_eq_false_iff_ne.2 hxy
    have HNE : Hid (xs[k] ≠ x) := fun e => hxy (by rw [← e, HY.out])
    clear hxy hy
    go_wp2_with fail
    go_roundw
    case rel => exact ⟨k + 1, by omega, by go_num, (by first | rfl | trivial), fun j h hj => by
     by_cases e : j = k
     ·subst e; exact HNE.out
     ·exact HA.out j h (by omega)⟩
    case measure => simp [intOf]; omega
  ·have HP : Hid (placeI xs x = -1) := placeI_none fun j h => HA.out j h (by omega)
   go_wp2_with fail
   go_ret
   exact ⟨ret_int HP.out.symm, by first | rfl | trivial⟩

end Go.Proofs.YtdkbbknhighebaaGreatDoor

namespace Go.Proofs.YtdkbbknhighebaaGreatDoor
open Go Go.RowKit


set_option maxRecDepth 100000 in
theorem part1_any (lo sb : Nat) (v : Value) (L : List Int) (x : Int) (w : World) (hs : w.cell? ⟨sb, 0, none⟩ = some v) (hv : SliceK 1 encI lo w v L) :
  Calls Tryz.prog 34 #[.int .i64 x, .pointer (some ⟨sb, 0, none⟩)] w fun e w' => e = .returned (.int .i64 (placeI L x)) ∧ w = w' := by
 have HI := Lib.hid (IndexP_any lo v L x w hv)
 have hr : -1 ≤ placeI L x ∧ placeI L x < 9223372036854775808 := by
  obtain ⟨a, c, rfl, hcn, hcc, -⟩ := hv
  unfold placeI
  have h1 := hcc
  split
  ·constructor
   ·omega
   ·omega
  ·constructor <;> omega
 obtain ⟨P, hP⟩ : ∃ P, P = placeI L x := ⟨_, rfl⟩
 rw [← hP] at HI hr ⊢
 have hp1 := hr.1
 have hp2 := hr.2
 clear hv hP hr
 go_enter Tryz.func34, Tryz.ntmps34
 go_wp2_with fail
 refine Calls.mono HI.out ?_
 rintro e w1 ⟨rfl, rfl⟩
 clear HI
 go_wp2
 go_ret
 exact ⟨by go_num, rfl⟩

end Go.Proofs.YtdkbbknhighebaaGreatDoor
