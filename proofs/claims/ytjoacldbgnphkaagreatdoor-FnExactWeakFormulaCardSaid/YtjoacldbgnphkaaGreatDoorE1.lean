/-
  Plain notions for the proofs of this seat: how slices, labelled transition systems and their edges lie in memory, and how such facts are carried from one world to a later one.
  An argument of a system's type, opened: what its reading says of the cells behind it.
  Texts as lists of bytes: names, numbers and labels. Plain definitions; no program in sight.
  Labelled transition systems: what makes them valid, the edges from a state. Plain definitions; no program in sight.
  The pairs that can stay: the sweeps that both texts make over the pairs, in place. Plain definitions; no program in sight.
  Tables of truths for pairs of states: the reference's rounds. Plain.
-/
import Derived.WalkKit
import Derived.WalkSpells
import Derived.WalkLawsBesides
import Derived.Lib.Hide
import Derived.BigQuiet
import Derived.Deep.QuietTactic
import Derived.Deep.LoopGhost
import Derived.ProofKit
import Derived.Lib.ItoaMem
import Derived.OpenShut
import Derived.Deep.Strs
import Derived.Deep.Slices
import Derived.Lib.Strings
import Derived.Lib.Bytes
namespace Go.Proofs.YtjoacldbgnphkaaGreatDoor
open Go Go.RowKit

structure Edge where
 src : Int
 lab : Int
 dst : Int
 deriving DecidableEq

structure Lts where
 states : Int
 initial : Int
 labels : List ByteArray
 edges : List Edge

/-- The elements xs of a slice with the address a lie in one block, from lo on, each in k cells. -/
def RowK {α : Type} (k : Nat) (enc : α → List Value) (lo : Nat) (w : World) (a : Option Addr) (xs : List α) : Prop :=
 xs.length = 0 ∨ ∃ b off, a = some ⟨b, off, none⟩ ∧ lo ≤ b ∧ b < w.heap.size ∧ ∀ i (h : i < xs.length) j, j < k → w.cell? ⟨b, off + i * k + j, none⟩ = (enc xs[i])[j]?

/-- A slice's value that holds the elements xs. -/
def SliceK {α : Type} (k : Nat) (enc : α → List Value) (lo : Nat) (w : World) (v : Value) (xs : List α) : Prop :=
 ∃ a cap, v = .slice a xs.length cap ∧ xs.length ≤ cap ∧ cap ≤ 9223372036854775807 ∧ RowK k enc lo w a xs

theorem RowK.below {α : Type} {k : Nat} {enc : α → List Value} {lo : Nat} {w w' : World} {a : Option Addr} {xs : List α} (h : RowK k enc lo w a xs) (hb : Below w.heap.size w w') : RowK k enc lo w' a xs := by
 rcases h with h | ⟨b, off, ha, h1, h2, h3⟩
 ·exact .inl h
 ·exact .inr ⟨b, off, ha, h1, Nat.lt_of_lt_of_le h2 hb.size, fun i hi j hj => by rw [hb.cell h2]; exact h3 i hi j hj⟩

theorem SliceK.below {α : Type} {k : Nat} {enc : α → List Value} {lo : Nat} {w w' : World} {v : Value} {xs : List α} (h : SliceK k enc lo w v xs) (hb : Below w.heap.size w w') : SliceK k enc lo w' v xs := by
 obtain ⟨a, cap, h1, h2, h4, h3⟩ := h
 exact ⟨a, cap, h1, h2, h4, h3.below hb⟩

theorem RowK.mono {α : Type} {k : Nat} {enc : α → List Value} {lo lo' : Nat} {w : World} {a : Option Addr} {xs : List α} (h : RowK k enc lo w a xs) (hl : lo' ≤ lo) : RowK k enc lo' w a xs := by
 rcases h with h | ⟨b, off, ha, h1, h2, h3⟩
 ·exact .inl h
 ·exact .inr ⟨b, off, ha, Nat.le_trans hl h1, h2, h3⟩

theorem SliceK.mono {α : Type} {k : Nat} {enc : α → List Value} {lo lo' : Nat} {w : World} {v : Value} {xs : List α} (h : SliceK k enc lo w v xs) (hl : lo' ≤ lo) : SliceK k enc lo' w v xs := by
 obtain ⟨a, cap, h1, h2, h4, h3⟩ := h
 exact ⟨a, cap, h1, h2, h4, h3.mono hl⟩

/-- An element's one cell. -/
def encI (n : Int) : List Value := [.int .i64 n]
def encS (s : ByteArray) : List Value := [.string s]
def encE (e : Edge) : List Value := [.int .i64 e.src, .int .i64 e.lab, .int .i64 e.dst]
def encV (v : Value) : List Value := [v]

theorem RowK.one {α : Type} {enc : α → List Value} {lo : Nat} {w : World} {a : Option Addr} {xs : List α} (h : RowK 1 enc lo w a xs) {i : Nat} (hi : i < xs.length) :
  ∃ b off, a = some ⟨b, off, none⟩ ∧ lo ≤ b ∧ b < w.heap.size ∧ w.cell? ⟨b, off + i, none⟩ = (enc xs[i])[0]? := by
 rcases h with h | ⟨b, off, ha, h1, h2, h3⟩
 ·omega
 ·exact ⟨b, off, ha, h1, h2, by have := h3 i hi 0 (by omega); simpa using this⟩

theorem RowK.edge {lo : Nat} {w : World} {a : Option Addr} {xs : List Edge} (h : RowK 3 encE lo w a xs) {i : Nat} (hi : i < xs.length) :
  ∃ b off, a = some ⟨b, off, none⟩ ∧ lo ≤ b ∧ b < w.heap.size ∧ w.cell? ⟨b, off + i * 3, none⟩ = some (.int .i64 xs[i].src) ∧ w.cell? ⟨b, off + i * 3 + 1, none⟩ = some (.int .i64 xs[i].lab) ∧ w.cell? ⟨b, off + i * 3 + 2, none⟩ = some (.int .i64 xs[i].dst) := by
 rcases h with h | ⟨b, off, ha, h1, h2, h3⟩
 ·omega
 ·exact ⟨b, off, ha, h1, h2, by have := h3 i hi 0 (by omega); simpa [encE] using this, by have := h3 i hi 1 (by omega); simpa [encE] using this, by have := h3 i hi 2 (by omega); simpa [encE] using this⟩

/-- A cell of an old block, later. -/
theorem keeps {B : Nat} {w w' : World} (h : Below B w w') {b o : Nat} {v : Value} (hb : b < B) (hc : w.cell? ⟨b, o, none⟩ = some v) : w'.cell? ⟨b, o, none⟩ = some v :=
 (h.cell (p := ⟨b, o, none⟩) hb).trans hc

theorem both {W w1 : World} (hb : Below W.heap.size W w1) : (∀ b o, b < W.heap.size → w1.cell? ⟨b, o, none⟩ = W.cell? ⟨b, o, none⟩) ∧ (∀ b o, b < W.heap.size → w1.frozen? ⟨b, o, none⟩ = W.frozen? ⟨b, o, none⟩) :=
 ⟨fun b o h => hb.cell (p := ⟨b, o, none⟩) h, fun b o h => hb.frozen (p := ⟨b, o, none⟩) h⟩

theorem ret_int {k : IntKind} {a b : Int} (h : a = b) : Ending.returned (.int k a) = .returned (.int k b) := by rw [h]
theorem ret_bool {a b : Bool} (h : a = b) : Ending.returned (.bool a) = .returned (.bool b) := by rw [h]

/-- The value of a system (a struct). -/
def LtsAt (lo : Nat) (w : World) (v : Value) (t : Lts) : Prop :=
 ∃ lv ev, v = .agg #[.int .i64 t.states, .int .i64 t.initial, lv, ev] ∧ SliceK 1 encS lo w lv t.labels ∧ SliceK 3 encE lo w ev t.edges

theorem LtsAt.below {lo : Nat} {w w' : World} {v : Value} {t : Lts} (h : LtsAt lo w v t) (hb : Below w.heap.size w w') : LtsAt lo w' v t := by
 obtain ⟨lv, ev, h1, h2, h3⟩ := h
 exact ⟨lv, ev, h1, h2.below hb, h3.below hb⟩

/-- A slice of slices of numbers. -/
def IntssAt (lo : Nat) (w : World) (v : Value) (xss : List (List Int)) : Prop :=
 ∃ vs : List Value, vs.length = xss.length ∧ SliceK 1 encV lo w v vs ∧ ∀ i (h : i < vs.length) (h' : i < xss.length), SliceK 1 encI lo w vs[i] xss[i]

theorem IntssAt.below {lo : Nat} {w w' : World} {v : Value} {xss : List (List Int)} (h : IntssAt lo w v xss) (hb : Below w.heap.size w w') : IntssAt lo w' v xss := by
 obtain ⟨vs, h1, h2, h3⟩ := h
 exact ⟨vs, h1, h2.below hb, fun i hi hi' => (h3 i hi hi').below hb⟩

/-- No text is longer than a Go text can be. -/
def StrsOk (ss : List ByteArray) : Prop := ∀ s ∈ ss, s.size ≤ 9223372036854775807

theorem drews {B : Nat} {a w : World} (h : Below B a w) (n : Nat) : Below B a (w.drewN n) := ⟨h.os, h.tape, h.output, h.size, h.block⟩

/-- A later world: what was there when the heap was that of w0 is as it was. -/
structure Later (w0 : World) where
 w : World
 h : Below w0.heap.size w0 w

instance (w : World) : Nonempty (Later w) := ⟨⟨w, Below.refl _ _⟩⟩

/-- A region that draws its order and whose operations read, or call functions that turn nothing that was there: walked once. -/
theorem wp_region_later {P : Program} {id : Nat} {Q : Exit → Act → World → Prop} {a : Act} {w : World} {l : List Oper} (hm : P.follows .mixedOrders = true) (hB : Region.lexB .any l.toArray = true)
  (h : wpQuiet P l.toArray (fun w' => ∃ g : Later w, w' = g.w) (fun a' => ∀ w', (∃ g : Later w, w' = g.w) → Q .normal a' w') l a) : (Code.region id l.toArray true).wp P Q a w :=
 wp_region_quiet (C := fun w' => ∃ g : Later w, w' = g.w) hm hB ⟨⟨_, (Below.refl _ w).drew⟩, rfl⟩ (by simpa using h)

theorem later_call {P : Program} {f : FuncId} {args : Array Value} {w0 : World} {g : Later w0} {v : Value}
  (h : Calls P f args g.w fun e w' => e = .returned v ∧ Below g.w.heap.size g.w w') : Calls P f args g.w fun e w'' => e = .returned v ∧ ∃ g' : Later w0, w'' = g'.w :=
 h.mono fun _ w' ⟨he, hb⟩ => ⟨he, ⟨⟨w', g.h.trans (hb.mono g.h.size)⟩, rfl⟩⟩

theorem later_same {P : Program} {f : FuncId} {args : Array Value} {w0 : World} {g : Later w0} {v : Value}
  (h : Calls P f args g.w fun e w' => e = .returned v ∧ g.w = w') : Calls P f args g.w fun e w'' => e = .returned v ∧ ∃ g' : Later w0, w'' = g'.w :=
 h.mono fun _ _ ⟨he, hb⟩ => ⟨he, ⟨g, hb.symm⟩⟩

/-- A fact on an old cell, in every later world. -/
theorem later_cell {w0 : World} {b o : Nat} {v : Value} (hb : b < w0.heap.size) (hc : w0.cell? ⟨b, o, none⟩ = some v) : ∀ g : Later w0, g.w.cell? ⟨b, o, none⟩ = some v :=
 fun g => keeps g.h hb hc

/-- A row of the call's own reads as a slice. -/
theorem SliceK.of_owns {α : Type} {k : Nat} {enc : α → List Value} (hk : ∀ x, (enc x).length = k) {lo e : Nat} {w : World} {v : Value} {n : Nat} {xs : List α} (hn : n = xs.length) (h : w.ownsRow lo e k v n (xs.flatMap enc)) : SliceK k enc lo w v xs := by
 subst hn
 obtain ⟨h0, ⟨rfl, h1⟩ | ⟨g, cap, cur, rfl, hg, hh, hc, hm, hs, ht⟩⟩ := h
 ·exact ⟨none, 0, by rw [h1], by omega, by omega, .inl h1⟩
 ·refine ⟨_, _, rfl, hc, by simpa [maxLen] using hm, .inr ⟨g, 0, rfl, hg, (Array.getElem?_eq_some_iff.1 hh).1, fun i hi j hj => ?_⟩⟩
  have hlt : i * k + j < xs.length * k := by
   have := Nat.mul_le_mul_right k (Nat.succ_le_of_lt hi)
   rw [Nat.succ_mul] at this
   omega
  have e1 : w.cell? ⟨g, i * k + j, none⟩ = (xs.flatMap enc)[i * k + j]? := by
   rw [cell_of_row w g _ cur e (0, 0) hh, ← ht, List.getElem?_take, if_pos hlt]
   simp
  rw [Nat.zero_add, e1]
  clear e1 hlt ht hs h0
  induction xs generalizing i with
  | nil => simp at hi
  | cons x r ih =>
   rw [List.flatMap_cons]
   cases i with
   | zero => rw [Nat.zero_mul, Nat.zero_add, List.getElem?_append_left (by rw [hk]; exact hj)]; rfl
   | succ i =>
    rw [List.getElem?_append_right (by rw [hk, Nat.succ_mul]; omega), hk, show (i + 1) * k + j - k = i * k + j from by rw [Nat.succ_mul]; omega]
    exact ih (by simp at hc ⊢; omega) _ (by simpa using hi)

theorem encI_len (n : Int) : (encI n).length = 1 := rfl
theorem encS_len (n : ByteArray) : (encS n).length = 1 := rfl
theorem encV_len (n : Value) : (encV n).length = 1 := rfl
theorem encE_len (n : Edge) : (encE n).length = 3 := rfl

/-- A slice that lies elsewhere than the row that was written. -/
theorem SliceK.grown {α : Type} {k : Nat} {enc : α → List Value} {lo : Nat} {w w' : World} {row : Option Nat} {v : Value} {xs : List α} (h : SliceK k enc lo w v xs) (hg : w.grownBy w' row) (hne : ∀ k, row = some k → k < lo) : SliceK k enc lo w' v xs := by
 obtain ⟨a, cap, h1, h2, h4, h3⟩ := h
 refine ⟨a, cap, h1, h2, h4, ?_⟩
 rcases h3 with h | ⟨b, off, ha, h1, h2, h3⟩
 ·exact .inl h
 ·exact .inr ⟨b, off, ha, h1, Nat.lt_of_lt_of_le h2 hg.size, fun i hi j hj => by
   rw [World.cell?_of_block (w := w) (hg.block b h2 (fun e => by have := hne b e.symm; omega))]; exact h3 i hi j hj⟩

theorem filled_set {α : Type} (xs : List α) (f : α → Value) (z : Value) (k : Nat) (h : k < xs.length) :
  ((xs.take k).map f ++ List.replicate (xs.length - k) z).set k (f xs[k]) = (xs.take (k + 1)).map f ++ List.replicate (xs.length - (k + 1)) z := by
 have hl : ((xs.take k).map f).length = k := by simp; omega
 rw [show xs.length - k = (xs.length - (k + 1)) + 1 from by omega, List.replicate_succ, List.set_append_right _ _ (by omega), hl, Nat.sub_self, List.set_cons_zero,
  List.take_succ_eq_append_getElem h, List.map_append, List.append_assoc]
 rfl

theorem filled_get {α : Type} (xs : List α) (f : α → Value) (z : Value) (k : Nat) (h : k < xs.length) :
  ((xs.take k).map f ++ List.replicate (xs.length - k) z)[k]? = some z := by
 have hl : ((xs.take k).map f).length = k := by simp; omega
 rw [List.getElem?_append_right (by omega), hl, Nat.sub_self, List.getElem?_replicate, if_pos (by omega)]

theorem owns_below {w w' : World} {base e size n : Nat} {v : Value} {xs : List Value} (h : w.ownsRow base e size v n xs) (hb : Below w.heap.size w w') : w'.ownsRow base e size v n xs :=
 h.kept (row := none) ⟨hb.os, hb.tape, hb.output, hb.size, fun k hk _ => hb.block k hk⟩ (by cases v.ownBlock <;> simp)

theorem filledE_len (xs : List Edge) (k : Nat) (h : k ≤ xs.length) : ((xs.take k).flatMap encE).length = k * 3 := by
 induction k with
 | zero => simp
 | succ k ih =>
  rw [List.take_succ_eq_append_getElem (by omega), List.flatMap_append, List.length_append, ih (by omega)]
  simp [encE, Nat.succ_mul]

theorem filledE_get (xs : List Edge) (z : Value) (k j : Nat) (h : k < xs.length) (hj : j < 3) :
  ((xs.take k).flatMap encE ++ List.replicate ((xs.length - k) * 3) z)[k * 3 + j]? = some z := by
 have hl := filledE_len xs k (by omega)
 rw [List.getElem?_append_right (by omega), hl, List.getElem?_replicate, if_pos (by omega)]

theorem filledE_set (xs : List Edge) (z : Value) (k : Nat) (h : k < xs.length) :
  ((((xs.take k).flatMap encE ++ List.replicate ((xs.length - k) * 3) z).set (k * 3) (.int .i64 xs[k].src)).set (k * 3 + 1) (.int .i64 xs[k].lab)).set (k * 3 + 2) (.int .i64 xs[k].dst)
   = (xs.take (k + 1)).flatMap encE ++ List.replicate ((xs.length - (k + 1)) * 3) z := by
 have hl := filledE_len xs k (by omega)
 rw [show (xs.length - k) * 3 = (xs.length - (k + 1)) * 3 + 1 + 1 + 1 from by omega, List.replicate_succ, List.replicate_succ, List.replicate_succ,
  List.set_append_right _ _ (by omega), List.set_append_right _ _ (by omega), List.set_append_right _ _ (by omega), hl,
  show k * 3 - k * 3 = 0 from by omega, show k * 3 + 1 - k * 3 = 1 from by omega, show k * 3 + 2 - k * 3 = 2 from by omega,
  List.take_succ_eq_append_getElem h, List.flatMap_append, List.append_assoc]
 simp [encE]

theorem grown_setCell (w : World) (p : Addr) (u : Value) : w.grownBy (w.setCell p u) (some p.block) :=
 ⟨rfl, rfl, rfl, by simp, fun k _ hk => Go.RowKit.Below.heap_setCell w p u k (fun h => hk (by rw [h]))⟩

theorem owns_setOther {w : World} {base e size n : Nat} {v : Value} {xs : List Value} (h : w.ownsRow base e size v n xs) (p : Addr) (u : Value) (hne : v.ownBlock ≠ some p.block) : (w.setCell p u).ownsRow base e size v n xs :=
 h.kept (grown_setCell w p u) (.inr hne)

/-- A block known whole. -/
def Blk (w : World) (b : Nat) (cs : List Value) (t : TypeId) : Prop := w.heap[b]? = some (.cells cs.toArray t (0, 0))

theorem Blk.lt {w : World} {b : Nat} {cs : List Value} {t : TypeId} (h : Blk w b cs t) : b < w.heap.size := (Array.getElem?_eq_some_iff.1 h).1
theorem Blk.cell {w : World} {b : Nat} {cs : List Value} {t : TypeId} (h : Blk w b cs t) (i : Nat) {v : Value} (hi : cs[i]? = some v) : w.cell? ⟨b, i, none⟩ = some v := by
 rw [cell_of_row w b i _ t (0, 0) h]; simpa using hi
theorem Blk.frozen {w : World} {b : Nat} {cs : List Value} {t : TypeId} (h : Blk w b cs t) (i : Nat) : w.frozen? ⟨b, i, none⟩ = false := frozen_of_row w b i _ t h
theorem Blk.below {w w' : World} {b : Nat} {cs : List Value} {t : TypeId} (h : Blk w b cs t) (hb : Below w.heap.size w w') : Blk w' b cs t := (hb.block b h.lt).trans h
theorem Blk.belowB {B : Nat} {w w' : World} {b : Nat} {cs : List Value} {t : TypeId} (h : Blk w b cs t) (hb : Below B w w') (hB : b < B) : Blk w' b cs t := (hb.block b hB).trans h
theorem Blk.set {w : World} {b : Nat} {cs : List Value} {t : TypeId} (h : Blk w b cs t) (i : Nat) (v : Value) : Blk (w.setCell ⟨b, i, none⟩ v) b (cs.set i v) t := by
 have := heap_setCell_same w b i _ t v h
 unfold Blk
 rw [this]
 simp
theorem Blk.setOther {w : World} {b : Nat} {cs : List Value} {t : TypeId} (h : Blk w b cs t) (p : Addr) (v : Value) (hp : b ≠ p.block) : Blk (w.setCell p v) b cs t := (heap_setCell_other w p b v hp).trans h
theorem Blk.new (w : World) (cs : List Value) (t : TypeId) : Blk (w.alloc (.cells cs.toArray t)) w.heap.size cs t := heap_alloc_new w _
theorem Blk.alloc {w : World} {b : Nat} {cs : List Value} {t : TypeId} (h : Blk w b cs t) (o : Obj) : Blk (w.alloc o) b cs t := (Go.RowKit.Below.heap_alloc w o b h.lt).trans h

theorem grown_refl (w : World) (row : Option Nat) : w.grownBy w row := ⟨rfl, rfl, rfl, Nat.le_refl _, fun _ _ _ => rfl⟩
theorem grown_trans {a b c : World} {row : Option Nat} (h : a.grownBy b row) (k : b.grownBy c row) : a.grownBy c row :=
 ⟨k.os.trans h.os, k.tape.trans h.tape, k.output.trans h.output, Nat.le_trans h.size k.size, fun i hi hn => (k.block i (Nat.lt_of_lt_of_le hi h.size) hn).trans (h.block i hi hn)⟩
theorem grown_below {w w' : World} (hb : Below w.heap.size w w') (row : Option Nat) : w.grownBy w' row := ⟨hb.os, hb.tape, hb.output, hb.size, fun k hk _ => hb.block k hk⟩
theorem below_grown {B : Nat} {w w' : World} {row : Option Nat} (hg : w.grownBy w' row) (hB : B ≤ w.heap.size) (hr : ∀ k, row = some k → B ≤ k) : Below B w w' :=
 (Below.refl B w).grown hg hB hr

theorem flat_encV (vs : List Value) : vs.flatMap encV = vs := by
 induction vs with
 | nil => rfl
 | cons a r ih => simp [encV, ih]
theorem flat_encI (xs : List Int) : xs.flatMap encI = xs.map (Value.int .i64) := by
 induction xs with
 | nil => rfl
 | cons a r ih => simp [encI, ih]
theorem flat_encS (xs : List ByteArray) : xs.flatMap encS = xs.map Value.string := by
 induction xs with
 | nil => rfl
 | cons a r ih => simp [encS, ih]

/-- A slice of slices of numbers, all in memory of the call's own, no two rows in one block. -/
def OwnIntss (eo ei lo : Nat) (w : World) (v : Value) (vs : List Value) (xss : List (List Int)) : Prop :=
 vs.length = xss.length ∧ w.ownsRow lo eo 1 v vs.length vs ∧ (∀ (i : Nat) (h : i < vs.length) (h' : i < xss.length), w.ownsRow lo ei 1 vs[i] xss[i].length (xss[i].map (Value.int .i64)))
  ∧ (∀ (i j : Nat) (h : i < vs.length) (h' : j < vs.length), i ≠ j → vs[i].ownBlock = none ∨ vs[i].ownBlock ≠ vs[j].ownBlock)
  ∧ (∀ (i : Nat) (h : i < vs.length), vs[i].ownBlock = none ∨ vs[i].ownBlock ≠ v.ownBlock)

theorem OwnIntss.below {eo ei lo : Nat} {w w' : World} {v : Value} {vs : List Value} {xss : List (List Int)} (h : OwnIntss eo ei lo w v vs xss) (hb : Below w.heap.size w w') : OwnIntss eo ei lo w' v vs xss := by
 obtain ⟨h1, h2, h3, h4, h5⟩ := h
 exact ⟨h1, owns_below h2 hb, fun i hi hi' => owns_below (h3 i hi hi') hb, h4, h5⟩

/-- One row is written. -/
theorem OwnIntss.row {eo ei lo : Nat} {w w' : World} {v : Value} {vs : List Value} {xss : List (List Int)} (h : OwnIntss eo ei lo w v vs xss) (j : Nat) (hj : j < vs.length) (ys : List Int)
  (hg : w.grownBy w' vs[j].ownBlock) (ho : w'.ownsRow lo ei 1 vs[j] ys.length (ys.map (Value.int .i64))) : OwnIntss eo ei lo w' v vs (xss.set j ys) := by
 obtain ⟨h1, h2, h3, h4, h5⟩ := h
 refine ⟨by simpa using h1, h2.kept hg ?_, fun i hi hi' => ?_, h4, h5⟩
 ·rcases h5 j hj with h | h
  ·cases hv : v.ownBlock with
   | none => exact .inl rfl
   | some b => exact .inr (by rw [h]; simp)
  ·exact .inr (fun e => h e.symm)
 ·by_cases hij : j = i
  ·subst hij
   simpa using ho
  ·rw [List.getElem_set_ne hij]
   refine (h3 i hi (by simpa using hi')).kept hg ?_
   exact h4 i j hi hj (fun e => hij e.symm)

theorem OwnIntss.at {eo ei lo : Nat} {w : World} {v : Value} {vs : List Value} {xss : List (List Int)} (h : OwnIntss eo ei lo w v vs xss) : IntssAt lo w v xss := by
 obtain ⟨h1, h2, h3, -, -⟩ := h
 refine ⟨vs, h1, SliceK.of_owns encV_len rfl (by rw [flat_encV]; exact h2), fun i hi hi' => ?_⟩
 exact SliceK.of_owns (e := ei) encI_len rfl (by rw [flat_encI]; exact h3 i hi hi')

/-- Of what was there, blocks from lo up to hi alone may have turned. -/
structure Turns (lo hi : Nat) (w w' : World) : Prop where
 os : w'.os = w.os
 tape : w'.tape = w.tape
 output : w'.output = w.output
 size : w.heap.size ≤ w'.heap.size
 block : ∀ k, k < w.heap.size → (k < lo ∨ hi ≤ k) → w'.heap[k]? = w.heap[k]?

theorem turns_refl (lo hi : Nat) (w : World) : Turns lo hi w w := ⟨rfl, rfl, rfl, Nat.le_refl _, fun _ _ _ => rfl⟩
theorem turns_trans {lo hi : Nat} {a b c : World} (h : Turns lo hi a b) (k : Turns lo hi b c) : Turns lo hi a c :=
 ⟨k.os.trans h.os, k.tape.trans h.tape, k.output.trans h.output, Nat.le_trans h.size k.size, fun i hi hn => (k.block i (Nat.lt_of_lt_of_le hi h.size) hn).trans (h.block i hi hn)⟩
theorem turns_below {lo hi : Nat} {w w' : World} (hb : Below w.heap.size w w') : Turns lo hi w w' := ⟨hb.os, hb.tape, hb.output, hb.size, fun k hk _ => hb.block k hk⟩
theorem turns_grown {lo hi : Nat} {w w' : World} {row : Option Nat} (hg : w.grownBy w' row) (hr : ∀ k, row = some k → lo ≤ k ∧ k < hi) : Turns lo hi w w' :=
 ⟨hg.os, hg.tape, hg.output, hg.size, fun k hk hn => hg.block k hk (fun e => by have := hr k e.symm; omega)⟩
theorem turns_set {lo hi : Nat} (w : World) (p : Addr) (u : Value) (h1 : lo ≤ p.block) (h2 : p.block < hi) : Turns lo hi w (w.setCell p u) :=
 turns_grown (grown_setCell w p u) (fun k e => by cases e; exact ⟨h1, h2⟩)
theorem below_turns {lo hi : Nat} {w w' : World} (h : Turns lo hi w w') (hl : lo ≤ w.heap.size) : Below lo w w' := ⟨h.os, h.tape, h.output, h.size, fun k hk => h.block k (by omega) (.inl hk)⟩
theorem owns_turns {lo hi : Nat} {w w' : World} {base e size n : Nat} {v : Value} {xs : List Value} (h : w.ownsRow base e size v n xs) (ht : Turns lo hi w w') (hne : ∀ b, v.ownBlock = some b → b < lo ∨ hi ≤ b) : w'.ownsRow base e size v n xs := by
 refine ⟨h.1, ?_⟩
 rcases h.2 with hn | ⟨g, cap, cur, rfl, hb, hgg, rest⟩
 ·exact .inl hn
 ·exact .inr ⟨g, cap, cur, rfl, hb, by rw [ht.block g (Array.getElem?_eq_some_iff.1 hgg).1 (hne g rfl)]; exact hgg, rest⟩
theorem OwnIntss.turns {eo ei base lo hi : Nat} {w w' : World} {v : Value} {vs : List Value} {xss : List (List Int)} (h : OwnIntss eo ei base w v vs xss) (ht : Turns lo hi w w') (hb : hi ≤ base) : OwnIntss eo ei base w' v vs xss := by
 obtain ⟨h1, h2, h3, h4, h5⟩ := h
 exact ⟨h1, owns_turns h2 ht (fun b e => .inr (Nat.le_trans hb (h2.lt b e).1)), fun i hi hi' => owns_turns (h3 i hi hi') ht (fun b e => .inr (Nat.le_trans hb ((h3 i hi hi').lt b e).1)), h4, h5⟩

theorem own_cell {w : World} {base e size g n cap : Nat} {xs : List Value} (h : w.ownsRow base e size (.slice (some ⟨g, 0, none⟩) n cap) n xs) (j : Nat) (hj : j < n * size) : ∃ v, w.cell? ⟨g, j, none⟩ = some v :=
 ⟨xs[j]'(by rw [h.1]; exact hj), by rw [h.cellAt j hj]; exact List.getElem?_eq_getElem _⟩

theorem own_base {w : World} {base e size n g cap : Nat} {xs : List Value} (h : w.ownsRow base e size (.slice (some ⟨g, 0, none⟩) n cap) n xs) : w.ownsRow g e size (.slice (some ⟨g, 0, none⟩) n cap) n xs := by
 obtain ⟨h0, ⟨h, _⟩ | ⟨g', cap', cur, h, _, rest⟩⟩ := h
 ·simp at h
 ·simp only [Value.slice.injEq, Option.some.injEq, Addr.mk.injEq, and_true, true_and] at h
  obtain ⟨rfl, rfl⟩ := h
  exact ⟨h0, .inr ⟨g, cap, cur, rfl, Nat.le_refl _, rest⟩⟩
theorem turns_wide {lo hi lo' hi' : Nat} {w w' : World} (h : Turns lo hi w w') (hl : lo' ≤ lo) (hh : hi ≤ hi') : Turns lo' hi' w w' := ⟨h.os, h.tape, h.output, h.size, fun k hk hn => h.block k hk (by omega)⟩
theorem Blk.turns {lo hi : Nat} {w w' : World} {b : Nat} {cs : List Value} {t : TypeId} (h : Blk w b cs t) (ht : Turns lo hi w w') (hb : b < lo ∨ hi ≤ b) : Blk w' b cs t := (ht.block b h.lt hb).trans h

theorem owns_slice {w : World} {base e size n : Nat} {v : Value} {xs : List Value} (h : w.ownsRow base e size v n xs) : ∃ a c, v = .slice a n c ∧ n ≤ c ∧ c ≤ 9223372036854775807 := by
 rcases h.2 with ⟨rfl, rfl⟩ | ⟨g, cap, cur, rfl, -, -, h1, h2, -⟩
 ·exact ⟨none, 0, rfl, Nat.le_refl _, by omega⟩
 ·exact ⟨_, _, rfl, h1, by simpa [maxLen] using h2⟩

theorem own_lower {w : World} {base base' e size n : Nat} {v : Value} {xs : List Value} (h : w.ownsRow base e size v n xs) (hb : base' ≤ base) : w.ownsRow base' e size v n xs := by
 obtain ⟨h0, h | ⟨g, cap, cur, h1, h2, rest⟩⟩ := h
 ·exact ⟨h0, .inl h⟩
 ·exact ⟨h0, .inr ⟨g, cap, cur, h1, Nat.le_trans hb h2, rest⟩⟩

theorem own_types {w : World} {b1 b2 e1 e2 s1 s2 n1 n2 : Nat} {v1 v2 : Value} {x1 x2 : List Value} (h1 : w.ownsRow b1 e1 s1 v1 n1 x1) (h2 : w.ownsRow b2 e2 s2 v2 n2 x2) (he : e1 ≠ e2) : v1.ownBlock = none ∨ v1.ownBlock ≠ v2.ownBlock := by
 rcases h1.2 with ⟨rfl, -⟩ | ⟨g1, c1, u1, rfl, -, hg1, -⟩
 ·exact .inl rfl
 ·refine .inr fun e => ?_
  rcases h2.2 with ⟨rfl, -⟩ | ⟨g2, c2, u2, rfl, -, hg2, -⟩
  ·simp [Value.ownBlock] at e
  ·simp only [Value.ownBlock, Option.some.injEq] at e
   subst e
   rw [hg1] at hg2
   simp only [Option.some.injEq, Obj.cells.injEq] at hg2
   exact he hg2.2.1

/-- One row more, which lies behind all that was there. -/
theorem OwnIntss.push {eo ei lo B : Nat} {w0 w w' : World} {v v' rv : Value} {vs : List Value} {xss : List (List Int)} {xs : List Int} (he : eo ≠ ei) (h : OwnIntss eo ei lo w0 v vs xss) (hB : w0.heap.size ≤ B)
  (hb : Below w0.heap.size w0 w) (hr : w.ownsRow B ei 1 rv xs.length (xs.map (Value.int .i64))) (hlo : lo ≤ B)
  (hg : w.grownBy w' v.ownBlock) (hv : w'.ownsRow lo eo 1 v' (vs.length + 1) (vs ++ [rv])) : OwnIntss eo ei lo w' v' (vs ++ [rv]) (xss ++ [xs]) := by
 obtain ⟨h1, h2, h3, h4, h5⟩ := h
 have k2 := owns_below h2 hb
 have hrow : ∀ (i : Nat) (h : i < vs.length) (h' : i < xss.length), w'.ownsRow lo ei 1 vs[i] xss[i].length (xss[i].map (Value.int .i64)) := fun i hi hi' =>
  (owns_below (h3 i hi hi') hb).kept hg (h5 i hi)
 have hnew : w'.ownsRow lo ei 1 rv xs.length (xs.map (Value.int .i64)) := (own_lower hr hlo).kept hg (own_types hr k2 (fun e => he e.symm))
 have hall : ∀ (i : Nat) (h : i < (vs ++ [rv]).length) (h' : i < (xss ++ [xs]).length), w'.ownsRow lo ei 1 (vs ++ [rv])[i] (xss ++ [xs])[i].length ((xss ++ [xs])[i].map (Value.int .i64)) := fun i hi hi' => by
  by_cases hlt : i < vs.length
  ·rw [List.getElem_append_left hlt]
   simp only [List.getElem_append_left (show i < xss.length by omega)]
   exact hrow i hlt (by omega)
  ·have e : i = vs.length := by simp at hi; omega
   subst e
   simp only [List.getElem_concat_length]
   have : (xss ++ [xs])[vs.length] = xs := by simp [h1]
   rw [this]
   exact hnew
 refine ⟨by simp [h1], by simpa using hv, hall, fun i j hi hj hij => ?_, fun i hi => own_types (hall i hi (by simp at hi ⊢; omega)) hv (fun e => he e.symm)⟩
 have hold : ∀ (i : Nat) (h : i < vs.length) b, vs[i].ownBlock = some b → b < w0.heap.size := fun i hi b e => ((h3 i hi (by omega)).lt b e).2
 have hnb : ∀ b, rv.ownBlock = some b → B ≤ b := fun b e => (hr.lt b e).1
 by_cases h1' : i < vs.length <;> by_cases h2' : j < vs.length
 ·rw [List.getElem_append_left h1', List.getElem_append_left h2']
  exact h4 i j h1' h2' hij
 ·have e : j = vs.length := by simp at hj; omega
  subst e
  rw [List.getElem_append_left h1', List.getElem_concat_length rfl]
  cases hb1 : vs[i].ownBlock with
  | none => exact .inl rfl
  | some b => exact .inr fun e => by have := hold i h1' b hb1; have := hnb b e.symm; omega
 ·have e : i = vs.length := by simp at hi; omega
  subst e
  rw [List.getElem_append_left h2', List.getElem_concat_length rfl]
  cases hb1 : rv.ownBlock with
  | none => exact .inl rfl
  | some b => exact .inr fun e => by have := hold j h2' b e.symm; have := hnb b hb1; omega
 ·simp at hi hj; omega

end Go.Proofs.YtjoacldbgnphkaaGreatDoor

namespace Go.Proofs.YtjoacldbgnphkaaGreatDoor
open Go Go.ChangeShapes Go.WideShapes Go.ChangeAt Go.RowKit Go.Deep

instance instEdgeOpen : Inhabited Edge := ⟨⟨0, 0, 0⟩⟩

section
variable {H : Type} {enc : TypeId × Value → H} {P : Program} {w : World} {base : Nat} {spare : Nat → Bool} {held : Bool}

theorem spot_none {w : World} {a : Addr} {v : Value} (h : w.cell? a = some v) : a = ⟨a.block, a.off, none⟩ := by
 unfold World.cell? at h
 split at h
 ·split at h
  ·cases h
  ·next hs =>
   obtain ⟨b, o, s⟩ := a
   cases s with
   | none => rfl
   | some x => simp at hs
 ·cases h

theorem rowK_of {α : Type} {k : Nat} {enc : α → List Value} {w : World} {a : Addr} {xs : List α} (hk : 0 < k) (henc : ∀ x, (enc x).length = k) (h : ∀ i (hi : i < xs.length) j, j < k → w.cell? (a.add (i * k + j)) = (enc xs[i])[j]?) : RowK k enc 0 w (some a) xs := by
 by_cases h0 : xs.length = 0
 ·exact .inl h0
 ·have hp : 0 < xs.length := by omega
  have h1 := h 0 hp 0 hk
  rw [Nat.zero_mul, Nat.zero_add] at h1
  have h2 : a.add 0 = a := by unfold Addr.add; rw [if_pos rfl]
  rw [h2, List.getElem?_eq_getElem (by rw [henc]; exact hk)] at h1
  have hs := spot_none h1
  have hlt := World.block_lt_of_cell? _ _ h1
  obtain ⟨b, o, s⟩ := a
  simp only [Addr.mk.injEq, true_and] at hs
  subst hs
  refine .inr ⟨b, o, rfl, Nat.zero_le _, hlt, fun i hi j hj => ?_⟩
  have := h i hi j hj
  rw [Lib.add_plain] at this
  rw [Nat.add_assoc]
  exact this

theorem trod_struct4 {t : TypeId} {f0 f1 f2 f3 : Field} {fuel : Nat} {cs : List Value} {x : DataW H × List MemPlace} (ht : P.underlying t = some (.struct #[f0, f1, f2, f3])) (h : DataW.trod enc P w base spare held fuel t cs = some x) :
  ∃ y0 y1 y2 y3 n, cs.length = P.cellsOf t ∧ DataW.trod enc P w base spare held n f0.type ((cs.drop f0.offset).take (P.cellsOf f0.type)) = some y0 ∧ DataW.trod enc P w base spare held n f1.type ((cs.drop f1.offset).take (P.cellsOf f1.type)) = some y1 ∧
   DataW.trod enc P w base spare held n f2.type ((cs.drop f2.offset).take (P.cellsOf f2.type)) = some y2 ∧ DataW.trod enc P w base spare held n f3.type ((cs.drop f3.offset).take (P.cellsOf f3.type)) = some y3 := by
 obtain ⟨xs, n, _, rfl, hl, hlen, hf⟩ := DataW.trod_struct ht h
 match xs, hlen with
 | [y0, y1, y2, y3], _ => exact ⟨y0, y1, y2, y3, n, hl, by simpa using hf 0 f0 rfl, by simpa using hf 1 f1 rfl, by simpa using hf 2 f2 rfl, by simpa using hf 3 f3 rfl⟩

theorem strs_slice {t e : TypeId} {fuel : Nat} {cs : List Value} {x : DataW H × List MemPlace} (ht : P.underlying t = some (.slice e)) (he : P.underlying e = some .string) (hc : P.cellsOf e = 1)
  (h : DataW.trod enc P w base spare held fuel t cs = some x) : ∃ v ss, cs = [v] ∧ SliceK 1 encS 0 w v ss ∧ StrsOk ss := by
 rcases open_strs ht he hc h with ⟨rfl, -⟩ | ⟨a, len, cap, m, Sx, rfl, -, hl, hm, hmm, -, hx⟩
 ·exact ⟨_, [], rfl, ⟨none, 0, rfl, Nat.le_refl _, by omega, .inl rfl⟩, fun s hs => by cases hs⟩
 ·have hlm : len ≤ m := by rw [hmm]; split <;> omega
  refine ⟨_, (List.range len).map Sx, rfl, ⟨some a, cap, by simp, by simpa using hl, by simpa [maxLen] using hm, rowK_of (by decide) encS_len fun i hi j hj => ?_⟩, fun s hs => ?_⟩
  ·obtain rfl : j = 0 := by omega
   have hi' : i < len := by simpa using hi
   rw [Nat.mul_one, Nat.add_zero, (hx i (by omega)).1]
   simp [encS]
  ·obtain ⟨i, hi, rfl⟩ := List.mem_map.1 hs
   have := (hx i (by have := List.mem_range.1 hi; omega)).2
   simpa [maxLen] using this

theorem edges_slice {t e u : TypeId} {f0 f1 f2 : Field} {fuel : Nat} {cs : List Value} {x : DataW H × List MemPlace} (ht : P.underlying t = some (.slice e)) (he : P.underlying e = some (.struct #[f0, f1, f2])) (hu : P.underlying u = some (.int .i64)) (ce : P.cellsOf e = 3) (cu : P.cellsOf u = 1)
  (t0 : f0.type = u) (t1 : f1.type = u) (t2 : f2.type = u) (o0 : f0.offset = 0) (o1 : f1.offset = 1) (o2 : f2.offset = 2)
  (h : DataW.trod enc P w base spare held fuel t cs = some x) : ∃ v es, cs = [v] ∧ SliceK 3 encE 0 w v es := by
 rcases open_slice ht h with ⟨rfl, -⟩ | ⟨a, len, cap, m, n, D, Pl, rfl, -, hl, hm, hmm, -, hx⟩
 ·exact ⟨_, [], rfl, ⟨none, 0, rfl, Nat.le_refl _, by omega, .inl rfl⟩⟩
 ·have hlm : len ≤ m := by rw [hmm]; split <;> omega
  have each : ∀ i, i < len → ∃ e : Edge, ∀ j, j < 3 → w.cell? (a.add (i * 3 + j)) = (encE e)[j]? := by
   intro i hi
   obtain ⟨cs', h1, h2⟩ := hx i (by omega)
   rw [ce] at h1
   obtain ⟨_, hlen, hcell⟩ := World.cells?_some h1
   obtain ⟨y0, y1, y2, k, -, hl3, g0, g1, g2⟩ := trod_struct3 he h2
   rw [t0, o0, cu] at g0
   rw [t1, o1, cu] at g1
   rw [t2, o2, cu] at g2
   obtain ⟨n0, e0, -, -⟩ := DataW.trod_int hu g0
   obtain ⟨n1, e1, -, -⟩ := DataW.trod_int hu g1
   obtain ⟨n2, e2, -, -⟩ := DataW.trod_int hu g2
   match cs', hlen, e0, e1, e2, hcell with
   | [c0, c1, c2], _, e0, e1, e2, hcell =>
    simp at e0 e1 e2
    subst e0 e1 e2
    refine ⟨⟨n0, n1, n2⟩, fun j hj => ?_⟩
    have := hcell j hj
    rw [add_add] at this
    exact this
  obtain ⟨q, hq⟩ := choose_lt each
  refine ⟨_, (List.range len).map q, rfl, ⟨some a, cap, by simp, by simpa using hl, by simpa [maxLen] using hm, rowK_of (by decide) encE_len fun i hi j hj => ?_⟩⟩
  have hi' : i < len := by simpa using hi
  rw [hq i hi' j hj]
  simp
end

end Go.Proofs.YtjoacldbgnphkaaGreatDoor

namespace Go.Proofs.YtjoacldbgnphkaaGreatDoor
open Go Go.RowKit

def small (c : UInt8) : Bool := decide (97 ≤ (c.toNat : Int)) && decide ((c.toNat : Int) ≤ 122)
def digit (c : UInt8) : Bool := decide (48 ≤ (c.toNat : Int)) && decide ((c.toNat : Int) ≤ 57)
def okc (c : UInt8) : Bool := small c || digit c
/-- 1 to 10 small letters or digits, the first of them a letter. -/
def isName (l : List UInt8) : Bool := decide (l.length ≤ 10) && (l.head?.any small && l.all okc)
def tauL : List UInt8 := [116, 97, 117]
def isAction (l : List UInt8) : Bool := isName l && !(l == tauL)

/-- The value of digits. -/
def valFrom (n : Nat) (l : List UInt8) : Nat := l.foldl (fun n c => 10 * n + (c.toNat - 48)) n

/-- The number with these digits, at most 18, without leading zeros. -/
def numDs (neg : Bool) (ds : List UInt8) : Option Int :=
 if ds.length = 0 ∨ 18 < ds.length ∨ (ds.head? = some 48 ∧ (neg = true ∨ 1 < ds.length)) ∨ ds.all digit = false then none
 else some (if neg then - (valFrom 0 ds : Int) else valFrom 0 ds)
/-- The number with a decimal form of at most 18 digits. -/
def numB (l : List UInt8) : Option Int :=
 if l.head? = some 45 then numDs true l.tail else numDs false l

/-- The parts between the bytes c. -/
def splitAt (c : UInt8) : List UInt8 → List (List UInt8)
 | [] => [[]]
 | x :: r =>
  match splitAt c r with
  | [] => [[]]
  | p :: ps => if x == c then [] :: p :: ps else (x :: p) :: ps

theorem len_data (s : ByteArray) : s.data.toList.length = s.size := (Lib.size_eq s).symm
theorem get_data (s : ByteArray) (k : Nat) (_h : k < s.size) (h' : k < s.data.toList.length) : s.data.toList[k] = s[k] := rfl
theorem head_data (s : ByteArray) (h : 0 < s.size) : s.data.toList.head? = some s[0] := by
 rw [List.head?_eq_getElem?, List.getElem?_eq_getElem (by rw [len_data]; exact h)]; rfl
theorem isName_long {l : List UInt8} (h : 10 < l.length) : isName l = false := by unfold isName; rw [decide_eq_false (by omega)]; rfl
theorem isName_head {s : ByteArray} (h : 0 < s.size) (hb : small s[0] = false) : isName s.data.toList = false := by
 unfold isName; rw [head_data s h]; simp [hb]
theorem isName_bad {s : ByteArray} {k : Nat} (h : k < s.size) (h1 : small s[k] = false) (h2 : digit s[k] = false) : isName s.data.toList = false := by
 unfold isName
 have : s.data.toList.all okc = false := by
  rw [List.all_eq_false]
  exact ⟨s[k], by rw [← get_data s k h (by rw [len_data]; exact h)]; exact List.getElem_mem _, by simp [okc, h1, h2]⟩
 rw [this]; simp
theorem isName_good {s : ByteArray} (h0 : 0 < s.size) (h1 : ¬ 10 < s.size) (hb : small s[0] = true) (ha : ∀ j (h : j < s.size), okc s[j] = true) : isName s.data.toList = true := by
 unfold isName
 rw [head_data s h0, decide_eq_true (by rw [len_data]; omega)]
 simp only [Option.any_some, hb, Bool.true_and, List.all_eq_true]
 intro x hx
 obtain ⟨j, hj, rfl⟩ := List.mem_iff_getElem.1 hx
 exact ha j (by rw [← len_data]; exact hj)

theorem data_inj {a b : ByteArray} (h : a.data.toList = b.data.toList) : a = b := by
 obtain ⟨⟨a⟩⟩ := a; obtain ⟨⟨b⟩⟩ := b; simp at h; rw [h]
theorem extract_data' (s : ByteArray) (a b : Nat) : (s.extract a b).data.toList = (s.data.toList.drop a).take (b - a) := by
 rw [← Lib.toList_data, Lib.extract_toList]

theorem splitAt_ne (c : UInt8) (l : List UInt8) : splitAt c l ≠ [] := by
 cases l with
 | nil => simp [splitAt]
 | cons x r => unfold splitAt; split <;> (try simp) ; split <;> simp
theorem splitAt_none {c : UInt8} {l : List UInt8} (h : ∀ x ∈ l, (x == c) = false) : splitAt c l = [l] := by
 induction l with
 | nil => rfl
 | cons x r ih =>
  unfold splitAt
  rw [ih (fun y hy => h y (List.mem_cons_of_mem _ hy))]
  simp [h x List.mem_cons_self]
theorem splitAt_hit {c : UInt8} {a b : List UInt8} (h : ∀ x ∈ a, (x == c) = false) : splitAt c (a ++ c :: b) = a :: splitAt c b := by
 induction a with
 | nil =>
  rw [List.nil_append]
  conv => lhs; unfold splitAt
  cases hb : splitAt c b with
  | nil => exact absurd hb (splitAt_ne c b)
  | cons p ps => simp
 | cons x r ih =>
  rw [List.cons_append]
  conv => lhs; unfold splitAt
  rw [ih (fun y hy => h y (List.mem_cons_of_mem _ hy))]
  simp [h x List.mem_cons_self]

/-- No byte c from place m up to place k. -/
def clean (c : UInt8) (l : List UInt8) (m k : Nat) : Prop := ∀ j (h : j < l.length), m ≤ j → j < k → (l[j] == c) = false
theorem split_step {c : UInt8} {l : List UInt8} {m k : Nat} (hm : m ≤ k) (hk : k < l.length) (hc : clean c l m k) (he : (l[k] == c) = true) :
  splitAt c (l.drop m) = (l.drop m).take (k - m) :: splitAt c (l.drop (k + 1)) := by
 have e : l.drop m = (l.drop m).take (k - m) ++ c :: l.drop (k + 1) := by
  have h1 : (l.drop m).drop (k - m) = l[k] :: l.drop (k + 1) := by
   rw [List.drop_drop, show m + (k - m) = k from by omega, List.drop_eq_getElem_cons hk]
  have he' : l[k] = c := by simpa using he
  rw [he'] at h1
  rw [← h1, List.take_append_drop]
 conv => lhs; rw [e]
 refine splitAt_hit fun x hx => ?_
 obtain ⟨j, hj, rfl⟩ := List.mem_iff_getElem.1 hx
 simp only [List.length_take, List.length_drop] at hj
 simp only [List.getElem_take, List.getElem_drop]
 exact hc (m + j) (by omega) (by omega) (by omega)
theorem split_end {c : UInt8} {l : List UInt8} {m : Nat} (hc : clean c l m l.length) : splitAt c (l.drop m) = [l.drop m] := by
 refine splitAt_none fun x hx => ?_
 obtain ⟨j, hj, rfl⟩ := List.mem_iff_getElem.1 hx
 simp only [List.length_drop] at hj
 simp only [List.getElem_drop]
 exact hc (m + j) (by omega) (by omega) (by omega)
theorem splitAt_len (c : UInt8) (l : List UInt8) : (splitAt c l).length ≤ l.length + 1 := by
 induction l with
 | nil => simp [splitAt]
 | cons x r ih =>
  unfold splitAt
  cases hb : splitAt c r with
  | nil => simp
  | cons p ps =>
   rw [hb] at ih
   simp only [List.length_cons] at ih ⊢
   split <;> simp <;> omega

def openAt (l : List UInt8) : Nat := l.findIdx (fun c => c == 40)

theorem valFrom_nil (n : Nat) : valFrom n [] = n := by unfold valFrom; exact List.foldl_nil
theorem valFrom_cons (n : Nat) (c : UInt8) (r : List UInt8) : valFrom n (c :: r) = valFrom (10 * n + (c.toNat - 48)) r := by unfold valFrom; exact List.foldl_cons ..
theorem valFrom_append (n : Nat) (a b : List UInt8) : valFrom n (a ++ b) = valFrom (valFrom n a) b := by simp [valFrom]
theorem valFrom_lt (ds : List UInt8) (n : Nat) (h : ds.all digit = true) : valFrom n ds < (n + 1) * 10 ^ ds.length := by
 induction ds generalizing n with
 | nil => simp [valFrom_nil]
 | cons x r ih =>
  simp only [List.all_cons, Bool.and_eq_true] at h
  have hd : x.toNat ≤ 57 := by
   have := h.1
   simp only [digit, Bool.and_eq_true, decide_eq_true_eq] at this
   omega
  have h2 := ih (10 * n + (x.toNat - 48)) h.2
  rw [valFrom_cons, List.length_cons, Nat.pow_succ, Nat.mul_comm (10 ^ r.length) 10, ← Nat.mul_assoc]
  generalize 10 ^ r.length = q at *
  exact Nat.lt_of_lt_of_le h2 (Nat.mul_le_mul_right _ (by omega))
theorem val_small {ds : List UInt8} (h : ds.all digit = true) (hl : ds.length ≤ 17) : valFrom 0 ds ≤ 99999999999999999 := by
 have h1 := valFrom_lt ds 0 h
 have h2 : 10 ^ ds.length ≤ 10 ^ 17 := Nat.pow_le_pow_right (by omega) hl
 omega
theorem val_small18 {ds : List UInt8} (h : ds.all digit = true) (hl : ds.length ≤ 18) : valFrom 0 ds ≤ 999999999999999999 := by
 have h1 := valFrom_lt ds 0 h
 have h2 : 10 ^ ds.length ≤ 10 ^ 18 := Nat.pow_le_pow_right (by omega) hl
 omega
/-- One digit more. -/
theorem val_step {l : List UInt8} {a k : Nat} (hak : a ≤ k) (hk : k < l.length) : valFrom 0 ((l.drop a).take (k + 1 - a)) = 10 * valFrom 0 ((l.drop a).take (k - a)) + (l[k].toNat - 48) := by
 rw [show k + 1 - a = (k - a) + 1 from by omega, List.take_succ_eq_append_getElem (by simp; omega), valFrom_append]
 simp only [valFrom_cons, valFrom_nil, List.getElem_drop, show a + (k - a) = k from by omega]
theorem all_step {l : List UInt8} {a k : Nat} (hak : a ≤ k) (hk : k < l.length) (h : ((l.drop a).take (k - a)).all digit = true) (hd : digit l[k] = true) : ((l.drop a).take (k + 1 - a)).all digit = true := by
 rw [show k + 1 - a = (k - a) + 1 from by omega, List.take_succ_eq_append_getElem (by simp; omega), List.all_append, h]
 simp only [List.all_cons, List.all_nil, Bool.and_true, List.getElem_drop, show a + (k - a) = k from by omega, hd]
theorem all_bad {l : List UInt8} {a k : Nat} (hak : a ≤ k) (hk : k < l.length) (hd : digit l[k] = false) : (l.drop a).all digit = false := by
 rw [List.all_eq_false]
 refine ⟨l[k], ?_, by simp [hd]⟩
 have : (l.drop a)[k - a]'(by simp; omega) = l[k] := by simp [List.getElem_drop, show a + (k - a) = k from by omega]
 rw [← this]
 exact List.getElem_mem _

def numOk (l : List UInt8) : Bool :=
 match numB l with
 | none => false
 | some n => decide (0 ≤ n) && decide (n ≤ 63)
/-- What stands between the parentheses of a label, parted at commas. -/
def labelParts (l : List UInt8) : List (List UInt8) := splitAt 44 ((l.drop (openAt l + 1)).take (l.length - 1 - (openAt l + 1)))
def labelOk (l : List UInt8) : Bool :=
 if openAt l = l.length then isName l
 else isAction (l.take (openAt l)) && ((l.getLast? == some 41) && ((labelParts l).all numOk && decide ((labelParts l).length ≤ 2)))
def labelVals (l : List UInt8) : List Int := if openAt l = l.length then [] else (labelParts l).map fun p => (numB p).getD 0

theorem openAt_le (l : List UInt8) : openAt l ≤ l.length := List.findIdx_le_length
theorem openAt_get {l : List UInt8} (h : openAt l < l.length) : l[openAt l] = 40 := by
 have := List.findIdx_getElem (w := h)
 unfold openAt at *
 simpa using this
theorem last_data {s : ByteArray} (h : 0 < s.size) : s.data.toList.getLast? = some s[s.size - 1] := by
 rw [List.getLast?_eq_getElem?, List.getElem?_eq_getElem (by rw [len_data]; omega)]
 rfl
theorem u8_eq {a : UInt8} {n : Nat} {b : UInt8} (hb : b.toNat = n) (h : ((a.toNat : Int) == (n : Int)) = true) : a = b := by
 have : (a.toNat : Int) = n := by simpa using h
 exact UInt8.toNat_inj.1 (by omega)
theorem u8_ne {a : UInt8} {n : Nat} {b : UInt8} (hb : b.toNat = n) (h : ((a.toNat : Int) == (n : Int)) = false) : a ≠ b := by
 intro e
 subst e
 rw [hb] at h
 simp at h

theorem splitAt_mem {c : UInt8} {l p : List UInt8} (h : p ∈ splitAt c l) : p.length ≤ l.length := by
 induction l generalizing p with
 | nil => simp [splitAt] at h; simp [h]
 | cons x r ih =>
  unfold splitAt at h
  cases hb : splitAt c r with
  | nil => exact absurd hb (splitAt_ne c r)
  | cons q qs =>
   rw [hb] at h ih
   simp only at h
   split at h
   ·rcases List.mem_cons.1 h with rfl | h
    ·simp
    ·exact Nat.le_succ_of_le (ih h)
   ·rcases List.mem_cons.1 h with rfl | h
    ·have := ih (p := q) List.mem_cons_self; simp; exact this
    ·exact Nat.le_succ_of_le (ih (List.mem_cons_of_mem _ h))
theorem all_none {ps : List ByteArray} {j : Nat} (h : j < ps.length) (hn : numOk ps[j].data.toList = false) : (ps.map (fun s => s.data.toList)).all numOk = false := by
 rw [List.all_eq_false]
 exact ⟨ps[j].data.toList, List.mem_map.2 ⟨ps[j], List.getElem_mem _, rfl⟩, by simp [hn]⟩

end Go.Proofs.YtjoacldbgnphkaaGreatDoor

namespace Go.Proofs.YtjoacldbgnphkaaGreatDoor
open Go Go.RowKit

def tauB : List UInt8 := [116, 97, 117]
def strLess (a b : ByteArray) : Bool := Op.bytesLess a.toList b.toList

/-- Labels: tau, then others that are labels, strictly increasing. -/
structure LabelsOk (ls : List ByteArray) : Prop where
 pos : 0 < ls.length
 most : ls.length ≤ 12
 first : ∀ h : 0 < ls.length, ls[0].toList = tauB
 label : ∀ i (h : i < ls.length), 1 ≤ i → labelOk ls[i].data.toList = true
 other : ∀ i (h : i < ls.length), 1 ≤ i → ls[i].toList ≠ tauB
 rise : ∀ i (h : i + 1 < ls.length), 1 ≤ i → strLess ls[i] ls[i + 1] = true

def edgeLess (a b : Edge) : Bool :=
 if a.src ≠ b.src then decide (a.src < b.src) else if a.lab ≠ b.lab then decide (a.lab < b.lab) else decide (a.dst < b.dst)

structure EdgeOk (t : Lts) (e : Edge) : Prop where
 s0 : 0 ≤ e.src
 s1 : e.src < t.states
 d0 : 0 ≤ e.dst
 d1 : e.dst < t.states
 l0 : 0 ≤ e.lab
 l1 : e.lab < t.labels.length

structure Valid (t : Lts) : Prop where
 st0 : 1 ≤ t.states
 st1 : t.states ≤ 40
 in0 : 0 ≤ t.initial
 in1 : t.initial < t.states
 labels : LabelsOk t.labels
 most : t.edges.length ≤ 300
 edge : ∀ i (h : i < t.edges.length), EdgeOk t t.edges[i]
 rise : ∀ i (h : i + 1 < t.edges.length), edgeLess t.edges[i] t.edges[i + 1] = true

/-- A function that answers whether something holds, and turns nothing that was there. -/
def Decides (p : Prop) (w : World) (e : Ending) (w' : World) : Prop := ∃ b : Bool, e = .returned (.bool b) ∧ (b = true ↔ p) ∧ Below w.heap.size w w'

theorem Decides.yes {P : Program} {f : FuncId} {args : Array Value} {w : World} {p : Prop} (h : Calls P f args w (Decides p w)) (hp : p) :
  Calls P f args w fun e w' => e = .returned (.bool true) ∧ Below w.heap.size w w' :=
 h.mono fun _ _ ⟨_, he, hb, hw⟩ => ⟨by rw [he, hb.2 hp], hw⟩
theorem Decides.no {P : Program} {f : FuncId} {args : Array Value} {w : World} {p : Prop} (h : Calls P f args w (Decides p w)) (hp : ¬ p) :
  Calls P f args w fun e w' => e = .returned (.bool false) ∧ Below w.heap.size w w' :=
 h.mono fun _ _ ⟨b, he, hb, hw⟩ => ⟨by rw [he, show b = false from Bool.eq_false_iff.2 fun h => hp (hb.1 h)], hw⟩

/-- A pointer to a system: its four cells, and its two slices. -/
def LtsPtr (lo : Nat) (w : World) (b : Nat) (t : Lts) : Prop :=
 ∃ lv ev, b < w.heap.size ∧ w.cell? ⟨b, 0, none⟩ = some (.int .i64 t.states) ∧ w.cell? ⟨b, 1, none⟩ = some (.int .i64 t.initial) ∧ w.cell? ⟨b, 2, none⟩ = some lv ∧ w.cell? ⟨b, 3, none⟩ = some ev
  ∧ SliceK 1 encS lo w lv t.labels ∧ SliceK 3 encE lo w ev t.edges

theorem LtsPtr.below {lo : Nat} {w w' : World} {b : Nat} {t : Lts} (h : LtsPtr lo w b t) (hb : Below w.heap.size w w') : LtsPtr lo w' b t := by
 obtain ⟨lv, ev, h1, h2, h3, h4, h5, h6, h7⟩ := h
 exact ⟨lv, ev, Nat.lt_of_lt_of_le h1 hb.size, keeps hb h1 h2, keeps hb h1 h3, keeps hb h1 h4, keeps hb h1 h5, h6.below hb, h7.below hb⟩

def EdgeCells (w : World) (b o : Nat) (e : Edge) : Prop :=
 w.cell? ⟨b, o, none⟩ = some (.int .i64 e.src) ∧ w.cell? ⟨b, o + 1, none⟩ = some (.int .i64 e.lab) ∧ w.cell? ⟨b, o + 2, none⟩ = some (.int .i64 e.dst)

/-- No text among the labels is longer than 2^30. -/
def Short (ss : List ByteArray) : Prop := ∀ i (h : i < ss.length), ss[i].size ≤ 1073741824

end Go.Proofs.YtjoacldbgnphkaaGreatDoor

namespace Go.Proofs.YtjoacldbgnphkaaGreatDoor
open Go Go.RowKit

/-- The text of an edge's label. -/
def labAt (t : Lts) (e : Edge) : ByteArray := t.labels.getD e.lab.toNat ByteArray.empty
def hitB (t : Lts) (q : Int) (l : ByteArray) (e : Edge) : Bool := (e.src == q) && ((labAt t e).toList == l.toList)
/-- The edges from a state. -/
def outOf (t : Lts) (k : Int) : List Edge := t.edges.filter fun e => e.src == k

theorem cell_bool {w : World} {base e g n cap : Nat} {c : List Bool} (h : w.ownsRow base e 1 (.slice (some ⟨g, 0, none⟩) n cap) n (c.map Value.bool)) {i : Nat} (hi : i < n) : w.cell? ⟨g, i, none⟩ = some (.bool (c.getD i false)) := by
 have hl := h.1
 rw [h.cellAt i (by omega), List.getElem?_map]
 have : i < c.length := by simp at hl; omega
 simp [List.getD, this]

end Go.Proofs.YtjoacldbgnphkaaGreatDoor

namespace Go.Proofs.YtjoacldbgnphkaaGreatDoor
open Go Go.RowKit

/-- The states that may answer an edge with a label from y. -/
def tgtG (t : Lts) (y : Int) (l : ByteArray) (w : Int) : Bool := t.edges.any fun f => f.src == y && ((labAt t f).toList == l.toList) && f.dst == w
end Go.Proofs.YtjoacldbgnphkaaGreatDoor
