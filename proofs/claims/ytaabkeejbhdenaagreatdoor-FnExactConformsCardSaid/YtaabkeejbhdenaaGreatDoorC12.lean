/-
  The search for a word on which two systems differ: plain notions, and the memory of the reference's search.
  A queue whose elements take k cells each: the rest of a row of the call's own, behind what was taken off its front.
  The net of sets in memory: its rows and its edges, of the call's own.
  What the implementation's functions on lists of values and on labels compute.
  What the implementation's readNumbers computes.
  What the implementation's joined computes.
  What the implementation's labelOf computes.
  What the implementation's readLabel and IsLabel compute.
-/
import Derived.Maps.AppendAt
import Derived.Test.YtaabkeejbhdenaaGreatDoorC11
import Derived.Test.YtaabkeejbhdenaaGreatDoorC10
import Derived.Test.YtaabkeejbhdenaaGreatDoorC8
import Derived.Test.YtaabkeejbhdenaaGreatDoorC1
import Derived.ArgAppend
import Derived.Deep.AppendLies
import Derived.Test.YtaabkeejbhdenaaGreatDoorC6
import Derived.Test.YtaabkeejbhdenaaGreatDoorC3
import Derived.Lib.SplitLaws
import Derived.OwnWalk
namespace Go.Proofs.YtaabkeejbhdenaaGreatDoor
open Go Go.RowKit

/-- What the reference passes over. -/
def deadP (both : Bool) (p : Int × Int) : Prop := p.2 < 0 ∧ (both = true → p.1 < 0)
theorem in_both {both : Bool} {p : Int × Int} (h1 : ¬ deadP both p) (h2 : ¬ apart both p) : 0 ≤ p.1 ∧ 0 ≤ p.2 := by
 unfold deadP at h1
 unfold apart at h2
 cases both <;> simp only [Bool.false_eq_true, false_and, or_false, true_and, true_implies, false_implies, and_true] at h1 h2 <;> omega
def difS (x y : Lts) (L : List ByteArray) (u : List Nat) : Int × Int := wAt ((0 : Int), (0 : Int)) (goBoth x y L) u
theorem difS_cons (x y : Lts) (L : List ByteArray) (k : Nat) (u : List Nat) : difS x y L (k :: u) = (goTo x (difS x y L u).1 (labK L k), goTo y (difS x y L u).2 (labK L k)) := rfl
theorem difS_range {x y : Lts} (hx : Valid x) (hy : Valid y) (L : List ByteArray) : ∀ u, ((difS x y L u).1 < x.states ∧ -1 ≤ (difS x y L u).1) ∧ (difS x y L u).2 < y.states ∧ -1 ≤ (difS x y L u).2
 | [] => by have := hx.st0; have := hy.st0; exact ⟨⟨by show (0 : Int) < _; omega, by show (-1 : Int) ≤ 0; decide⟩, by show (0 : Int) < _; omega, by show (-1 : Int) ≤ 0; decide⟩
 | k :: u => by
  rw [difS_cons]
  have h1 := goTo_range hx (difS x y L u).1 (labK L k)
  have h2 := goTo_range hy (difS x y L u).2 (labK L k)
  exact ⟨⟨h1.2, h1.1⟩, h2.2, h2.1⟩
theorem NSt.few {x y : Lts} {L : List ByteArray} {m : Nat} {both : Bool} {N : List (List Nat)} {i k : Nat} (hx : Valid x) (hy : Valid y) (h : NSt ((0 : Int), (0 : Int)) (goBoth x y L) m (deadP both) (apart both) N i k) : N.length ≤ 1600 := by
 have hp : ∀ u ∈ N, (0 ≤ (difS x y L u).1 ∧ (difS x y L u).1 < 40) ∧ 0 ≤ (difS x y L u).2 ∧ (difS x y L u).2 < 40 := fun u hu => by
  have h1 := in_both (h.alive u hu) (h.noF u hu)
  have h2 := difS_range hx hy L u
  have h3 := hx.st1
  have h4 := hy.st1
  exact ⟨⟨h1.1, by omega⟩, h1.2, by omega⟩
 have h1 : (N.map fun u => ((difS x y L u).1 * 40 + (difS x y L u).2).toNat).Nodup := by
  have hn := h.nodup
  rw [List.nodup_iff_pairwise_ne, List.pairwise_map] at hn ⊢
  refine List.Pairwise.imp_of_mem ?_ hn
  intro a b ha hb hne e
  have h1 := hp a ha
  have h2 := hp b hb
  refine hne ?_
  show difS x y L a = difS x y L b
  have e1 : (difS x y L a).1 = (difS x y L b).1 := by omega
  have e2 : (difS x y L a).2 = (difS x y L b).2 := by omega
  exact Prod.ext e1 e2
 have := nodup_lt 1600 _ h1 (fun z hz => by
  obtain ⟨u, hu, rfl⟩ := List.mem_map.1 hz
  have := hp u hu
  omega)
 rwa [List.length_map] at this

/-- How a word leads back: the word ahead of it, its last letter's label. -/
def BackOk (L : List ByteArray) (N : List (List Nat)) (bs : List Int) (ys : List ByteArray) : Prop :=
 bs.length = N.length ∧ ys.length = N.length ∧ ∀ j u, N[j]? = some u → 0 < j → ∃ a v p, u = a :: v ∧ p < j ∧ N[p]? = some v ∧ bs[j]? = some ((p : Nat) : Int) ∧ ys[j]? = some (labK L a)
theorem BackOk.one (L : List ByteArray) : BackOk L [[]] [-1] [⟨#[]⟩] := ⟨rfl, rfl, fun j u h hj => by have := (List.getElem?_eq_some_iff.1 h).1; simp at this; omega⟩
theorem BackOk.push {L : List ByteArray} {N : List (List Nat)} {bs : List Int} {ys : List ByteArray} (h : BackOk L N bs ys) {i k : Nat} {u : List Nat} (hu : N[i]? = some u) : BackOk L (N ++ [k :: u]) (bs ++ [(i : Int)]) (ys ++ [labK L k]) := by
 obtain ⟨h1, h2, h3⟩ := h
 have hi := (List.getElem?_eq_some_iff.1 hu).1
 refine ⟨by simp [h1], by simp [h2], fun j x hx hj => ?_⟩
 by_cases hc : j < N.length
 ·rw [List.getElem?_append_left hc] at hx
  obtain ⟨a, v, p, e1, e2, e3, e4, e5⟩ := h3 j x hx hj
  exact ⟨a, v, p, e1, e2, by rw [List.getElem?_append_left (by omega)]; exact e3, by rw [List.getElem?_append_left (by omega)]; exact e4, by rw [List.getElem?_append_left (by omega)]; exact e5⟩
 ·have hj2 : j = N.length := by
   have := (List.getElem?_eq_some_iff.1 hx).1
   simp at this
   omega
  subst hj2
  rw [List.getElem?_concat_length] at hx
  cases hx
  exact ⟨k, u, i, rfl, hi, by rw [List.getElem?_append_left hi]; exact hu, by rw [← h1, List.getElem?_concat_length], by rw [← h2, List.getElem?_concat_length]⟩

/-- The four slices of the reference's search. -/
structure OwnD (B : Nat) (w : World) (vl vr vb vy : Value) (ls rs bs : List Int) (ys : List ByteArray) : Prop where
 left : w.ownsRow B 2 1 vl ls.length (ls.map (Value.int .i64))
 right : w.ownsRow B 2 1 vr rs.length (rs.map (Value.int .i64))
 before : w.ownsRow B 3 1 vb bs.length (bs.map (Value.int .i64))
 by_ : w.ownsRow B 9 1 vy ys.length (ys.map .string)
 far : vl.ownBlock = none ∨ vl.ownBlock ≠ vr.ownBlock
 far2 : vr.ownBlock = none ∨ vr.ownBlock ≠ vl.ownBlock
theorem OwnD.below {B : Nat} {w w' : World} {vl vr vb vy : Value} {ls rs bs : List Int} {ys : List ByteArray} (h : OwnD B w vl vr vb vy ls rs bs ys) (hb : Below w.heap.size w w') : OwnD B w' vl vr vb vy ls rs bs ys :=
 ⟨owns_below h.left hb, owns_below h.right hb, owns_below h.before hb, owns_below h.by_ hb, h.far, h.far2⟩
theorem OwnD.pushL {B : Nat} {w w1 : World} {o : Obj} {vl vl' vr vb vy : Value} {ls rs bs : List Int} {ys : List ByteArray} {x : Int} (h : OwnD B w vl vr vb vy ls rs bs ys) (hg : (w.alloc o).grownBy w1 vl.ownBlock)
  (ho : w1.ownsRow B 2 1 vl' (ls.length + 1) (ls.map (Value.int .i64) ++ [.int .i64 x])) (ha : vl'.ownBlock = vl.ownBlock ∨ vl'.ownBlock = some (w.alloc o).heap.size) : OwnD B w1 vl' vr vb vy (ls ++ [x]) rs bs ys := by
 have hA := h.below (w' := w.alloc o) ((Below.refl _ _).alloc (Nat.le_refl _) _)
 have hr : ∀ b, vr.ownBlock = some b → b ≠ (w.alloc o).heap.size := fun b e => by have := (hA.right.lt b e).2; omega
 have k1 : vr.ownBlock = none ∨ vr.ownBlock ≠ vl'.ownBlock := by
  cases hv : vr.ownBlock with
  | none => exact .inl rfl
  | some b =>
   refine .inr fun e => ?_
   rcases ha with ha | ha
   ·rcases h.far2 with h0 | h0
    ·rw [hv] at h0; cases h0
    ·exact h0 (by rw [hv, e, ha])
   ·rw [ha] at e; cases e; exact hr _ hv rfl
 have k2 : vl'.ownBlock = none ∨ vl'.ownBlock ≠ vr.ownBlock := by
  rcases k1 with k | k
  ·cases hv : vl'.ownBlock with
   | none => exact .inl rfl
   | some b => exact .inr (by rw [k]; simp)
  ·exact .inr fun e => k e.symm
 exact ⟨by simpa using ho, hA.right.kept hg hA.far2, hA.before.kept hg (own_types hA.before hA.left (by decide)), hA.by_.kept hg (own_types hA.by_ hA.left (by decide)), k2, k1⟩
theorem OwnD.swap {B : Nat} {w : World} {vl vr vb vy : Value} {ls rs bs : List Int} {ys : List ByteArray} (h : OwnD B w vl vr vb vy ls rs bs ys) : OwnD B w vr vl vb vy rs ls bs ys := ⟨h.right, h.left, h.before, h.by_, h.far2, h.far⟩
theorem OwnD.pushR {B : Nat} {w w1 : World} {o : Obj} {vl vr' vr vb vy : Value} {ls rs bs : List Int} {ys : List ByteArray} {x : Int} (h : OwnD B w vl vr vb vy ls rs bs ys) (hg : (w.alloc o).grownBy w1 vr.ownBlock)
  (ho : w1.ownsRow B 2 1 vr' (rs.length + 1) (rs.map (Value.int .i64) ++ [.int .i64 x])) (ha : vr'.ownBlock = vr.ownBlock ∨ vr'.ownBlock = some (w.alloc o).heap.size) : OwnD B w1 vl vr' vb vy ls (rs ++ [x]) bs ys :=
 (h.swap.pushL hg ho ha).swap
theorem OwnD.pushB {B : Nat} {w w1 : World} {o : Obj} {vl vr vb vb' vy : Value} {ls rs bs : List Int} {ys : List ByteArray} {x : Int} (h : OwnD B w vl vr vb vy ls rs bs ys) (hg : (w.alloc o).grownBy w1 vb.ownBlock)
  (ho : w1.ownsRow B 3 1 vb' (bs.length + 1) (bs.map (Value.int .i64) ++ [.int .i64 x])) : OwnD B w1 vl vr vb' vy ls rs (bs ++ [x]) ys := by
 have hA := h.below (w' := w.alloc o) ((Below.refl _ _).alloc (Nat.le_refl _) _)
 exact ⟨hA.left.kept hg (own_types hA.left hA.before (by decide)), hA.right.kept hg (own_types hA.right hA.before (by decide)), by simpa using ho, hA.by_.kept hg (own_types hA.by_ hA.before (by decide)), h.far, h.far2⟩
theorem OwnD.pushY {B : Nat} {w w1 : World} {o : Obj} {vl vr vb vy vy' : Value} {ls rs bs : List Int} {ys : List ByteArray} {x : ByteArray} (h : OwnD B w vl vr vb vy ls rs bs ys) (hg : (w.alloc o).grownBy w1 vy.ownBlock)
  (ho : w1.ownsRow B 9 1 vy' (ys.length + 1) (ys.map .string ++ [.string x])) : OwnD B w1 vl vr vb vy' ls rs bs (ys ++ [x]) := by
 have hA := h.below (w' := w.alloc o) ((Below.refl _ _).alloc (Nat.le_refl _) _)
 exact ⟨hA.left.kept hg (own_types hA.left hA.by_ (by decide)), hA.right.kept hg (own_types hA.right hA.by_ (by decide)), hA.before.kept hg (own_types hA.before hA.by_ (by decide)), by simpa using ho, h.far, h.far2⟩

end Go.Proofs.YtaabkeejbhdenaaGreatDoor

namespace Go.Proofs.YtaabkeejbhdenaaGreatDoor
open Go Go.RowKit

def TailK (w : World) (base : Nat) (e : TypeId) (k : Nat) (v : Value) (n : Nat) (xs : List Value) : Prop :=
 xs.length = n * k ∧ ((v = .slice none 0 0 ∧ n = 0) ∨
 ∃ g o cap cur, v = .slice (some ⟨g, o, none⟩) n cap ∧ base ≤ g ∧ w.heap[g]? = some (.cells cur e (0, 0)) ∧ n ≤ cap ∧ cap ≤ maxLen ∧ o + cap * k ≤ cur.size ∧ ∀ j (h : j < xs.length), cur[o + j]? = some xs[j])
theorem TailK.of_owns {w : World} {base : Nat} {e : TypeId} {k n : Nat} {v : Value} {xs : List Value} (h : w.ownsRow base e k v n xs) : TailK w base e k v n xs := by
 refine ⟨h.1, ?_⟩
 rcases h.2 with h1 | ⟨g, cap, cur, h1, h2, h3, h4, h5, h6, h7⟩
 ·exact .inl h1
 ·refine .inr ⟨g, 0, cap, cur, h1, h2, h3, h4, h5, by omega, fun j hj => ?_⟩
  have h8 : (cur.toList.take (n * k))[j]? = xs[j]? := by rw [h7]
  rw [List.getElem?_take, if_pos (by rw [← h.1]; exact hj), List.getElem?_eq_getElem hj] at h8
  rw [Nat.zero_add]
  simpa using h8
theorem TailK.kept {w w' : World} {base : Nat} {e : TypeId} {k n : Nat} {v : Value} {xs : List Value} {row : Option Nat} (h : TailK w base e k v n xs) (hg : w.grownBy w' row) (hne : v.ownBlock = none ∨ v.ownBlock ≠ row) : TailK w' base e k v n xs := by
 refine ⟨h.1, ?_⟩
 rcases h.2 with h | ⟨g, o, cap, cur, rfl, h2, h3, rest⟩
 ·exact .inl h
 ·refine .inr ⟨g, o, cap, cur, rfl, h2, ?_, rest⟩
  rw [hg.block g (Array.getElem?_eq_some_iff.1 h3).1 (by simpa [Value.ownBlock] using hne)]
  exact h3
theorem TailK.below {w w' : World} {base : Nat} {e : TypeId} {k n : Nat} {v : Value} {xs : List Value} (h : TailK w base e k v n xs) (hb : Below w.heap.size w w') : TailK w' base e k v n xs := by
 refine ⟨h.1, ?_⟩
 rcases h.2 with h | ⟨g, o, cap, cur, rfl, h2, h3, rest⟩
 ·exact .inl h
 ·exact .inr ⟨g, o, cap, cur, rfl, h2, (hb.block g (Array.getElem?_eq_some_iff.1 h3).1).trans h3, rest⟩
theorem TailK.lt {w : World} {base : Nat} {e : TypeId} {k n : Nat} {v : Value} {xs : List Value} (h : TailK w base e k v n xs) : ∀ b, v.ownBlock = some b → base ≤ b ∧ b < w.heap.size := by
 intro b hb
 rcases h.2 with ⟨rfl, _⟩ | ⟨g, o, cap, cur, rfl, h2, h3, _⟩
 ·simp [Value.ownBlock] at hb
 ·simp [Value.ownBlock] at hb
  subst hb
  exact ⟨h2, (Array.getElem?_eq_some_iff.1 h3).1⟩
/-- The first element's cells, and the slice's form. -/
theorem TailK.head {w : World} {base : Nat} {e : TypeId} {k n : Nat} {v : Value} {xs : List Value} (h : TailK w base e k v (n + 1) xs) :
  ∃ g o cap, v = .slice (some ⟨g, o, none⟩) (n + 1) cap ∧ base ≤ g ∧ g < w.heap.size ∧ n + 1 ≤ cap ∧ cap ≤ maxLen ∧ ∀ j, j < xs.length → w.cell? ⟨g, o + j, none⟩ = xs[j]? := by
 rcases h.2 with ⟨_, h⟩ | ⟨g, o, cap, cur, rfl, h2, h3, h4, h5, h6, h7⟩
 ·omega
 ·refine ⟨g, o, cap, rfl, h2, (Array.getElem?_eq_some_iff.1 h3).1, h4, h5, fun j hj => ?_⟩
  rw [cell_of_row w g (o + j) cur e (0, 0) h3, h7 j hj, List.getElem?_eq_getElem hj]
/-- Popped. -/
theorem TailK.pop {w : World} {base : Nat} {e : TypeId} {g o k n cap : Nat} {xs : List Value} (h : TailK w base e k (.slice (some ⟨g, o, none⟩) (n + 1) cap) (n + 1) xs) :
  TailK w base e k (.slice (some ⟨g, o + k, none⟩) n (cap - 1)) n (xs.drop k) := by
 have hl := h.1
 refine ⟨by rw [List.length_drop, hl, Nat.add_mul, Nat.one_mul, Nat.add_sub_cancel], ?_⟩
 rcases h.2 with ⟨_, h⟩ | ⟨g', o', cap', cur, h1, h2, h3, h4, h5, h6, h7⟩
 ·omega
 ·simp only [Value.slice.injEq, Option.some.injEq, Addr.mk.injEq, and_true, true_and] at h1
  obtain ⟨⟨rfl, rfl⟩, rfl⟩ := h1
  have h8 : k + (cap - 1) * k = cap * k := by
   obtain ⟨c, rfl⟩ : ∃ c, cap = c + 1 := ⟨cap - 1, by omega⟩
   rw [Nat.add_sub_cancel, Nat.add_mul, Nat.one_mul, Nat.add_comm]
  refine .inr ⟨g, o + k, cap - 1, cur, rfl, h2, h3, by omega, by omega, by omega, fun j hj => ?_⟩
  rw [List.length_drop] at hj
  have := h7 (k + j) (by omega)
  rw [List.getElem_drop, show o + k + j = o + (k + j) from by omega]
  exact this
/-- Popped empty: the slice's address may have stayed. -/
theorem TailK.empty {w : World} {base : Nat} {e : TypeId} {g o k cap : Nat} {xs : List Value} (h : TailK w base e k (.slice (some ⟨g, o, none⟩) 0 cap) 0 xs) (o' : Nat) (ho : o' ≤ o) : TailK w base e k (.slice (some ⟨g, o', none⟩) 0 0) 0 [] := by
 refine ⟨by simp, ?_⟩
 rcases h.2 with ⟨h, _⟩ | ⟨g', o2, cap', cur, h1, h2, h3, h4, h5, h6, h7⟩
 ·simp at h
 ·simp only [Value.slice.injEq, Option.some.injEq, Addr.mk.injEq, and_true, true_and] at h1
  obtain ⟨⟨rfl, rfl⟩, rfl⟩ := h1
  exact .inr ⟨g, o', 0, cur, rfl, h2, h3, by omega, by simp [maxLen], by omega, fun j hj => by simp at hj⟩

theorem setCells_row {e : TypeId} (b : Nat) : ∀ (vs : List Value) (o : Nat) (w : World) (cur : Array Value), w.heap[b]? = some (.cells cur e (0, 0)) → o + vs.length ≤ cur.size →
  ∃ cur', (w.setCells b o vs).heap[b]? = some (.cells cur' e (0, 0)) ∧ cur'.size = cur.size ∧ (∀ j, j < o → cur'[j]? = cur[j]?) ∧ (∀ j (h : j < vs.length), cur'[o + j]? = some vs[j]) ∧ w.grownBy (w.setCells b o vs) (some b)
 | [], o, w, cur, h, hs => ⟨cur, h, rfl, fun _ _ => rfl, fun j hj => by simp at hj, grown_refl w _⟩
 | v :: vs, o, w, cur, h, hs => by
  have h1 := heap_setCell_same w b o cur e v h
  obtain ⟨cur', k1, k2, k3, k4, k5⟩ := setCells_row b vs (o + 1) (w.setCell ⟨b, o, none⟩ v) (cur.setIfInBounds o v) h1 (by rw [List.length_cons] at hs; rw [Array.size_setIfInBounds]; omega)
  rw [List.length_cons] at hs
  refine ⟨cur', k1, by rw [k2, Array.size_setIfInBounds], fun j hj => ?_, fun j hj => ?_, grown_trans (grown_setCell w ⟨b, o, none⟩ v) k5⟩
  ·rw [k3 j (by omega), Array.getElem?_setIfInBounds_ne (by omega)]
  ·cases j with
   | zero =>
    rw [Nat.add_zero, k3 o (by omega), Array.getElem?_setIfInBounds_self_of_lt (by omega)]
    rfl
   | succ j =>
    have := k4 j (by simpa using hj)
    rw [show o + (j + 1) = o + 1 + j from by omega]
    simpa using this

theorem run_append_tail {P : Program} (w : World) (t ty : TypeId) (base : Nat) (e : TypeId) (i : TypeInfo) (z : Value) (size bytes : Nat) (h1 : P.underlying t = some (.slice e)) (h2 : P.info? e = some i) (h3 : i.zero = some z)
  (h4 : i.size = size) (h5 : i.bytes = bytes) (h6 : z.cells.size = size) (h7 : 0 < size)
  (v : Value) (n : Nat) (xs : List Value) (hown : TailK w base e size v n xs)
  (ad : Addr) (news : List Value) (hl : news.length = size) (hnews : ∀ j u, news[j]? = some u → w.cell? (ad.add j) = some u) (hc1 : ∀ u ∈ news, u.oneCell' = true)
  (b1 : n + 1 ≤ maxLen) (b2 : (n + 1) * bytes ≤ 140737488355328) (hbase : base ≤ w.heap.size) :
  ∃ g o cap w', (Builtin.append_ #[t, t] ty #[v, .slice (some ad) 1 1]).run P w = .ok (.slice (some ⟨g, o, none⟩) (n + 1) cap) w' ∧ TailK w' base e size (.slice (some ⟨g, o, none⟩) (n + 1) cap) (n + 1) (xs ++ news) ∧ w.grownBy w' v.ownBlock ∧ (v.ownBlock = some g ∨ w.heap.size ≤ g) ∧ g < w'.heap.size := by
 have hl' : news.length = 1 * size := by rw [hl, Nat.one_mul]
 rcases hown.2 with ⟨rfl, rfl⟩ | ⟨g, off, cap, cur, rfl, k2, k3, k4, k5, k6, k7⟩
 ·have hx : xs = [] := List.eq_nil_of_length_eq_zero (by rw [hown.1]; simp)
  subst hx
  obtain ⟨g, cap, w', r1, r2, r3, r4, r5⟩ := run_append_lies (P := P) w t ty base e i z size bytes h1 h2 h3 h4 h5 h6 h7 (.slice none 0 0) 0 [] (World.ownsRow_nil w base e size) ad 1 1 news hl' hnews hc1 (by omega) b1 b2 hbase w.heap.size rfl
  refine ⟨g, 0, cap, w', r1, TailK.of_owns r2, r3, ?_, r5⟩
  rcases r4 with r4 | r4
  ·simp [Value.ownBlock] at r4
  ·exact .inr (Nat.le_of_eq r4.symm)
 ·have hxl := hown.1
  have hcell : ∀ j u, xs[j]? = some u → w.cell? ⟨g, off + j, none⟩ = some u := by
   intro j u hj
   obtain ⟨hlt, rfl⟩ := List.getElem?_eq_some_iff.1 hj
   rw [cell_of_row w g (off + j) cur e (0, 0) k3]
   exact k7 j hlt
  have hg := (Array.getElem?_eq_some_iff.1 k3).1
  by_cases hr : n + 1 ≤ cap
  ·subst h4
   have hfit : off + n * i.size + news.length ≤ cur.size := by
    have h8 : n * i.size + i.size ≤ cap * i.size := by
     have := Nat.mul_le_mul_right i.size hr
     rwa [Nat.add_mul, Nat.one_mul] at this
    omega
   have hrun := run_append_room_cells (P := P) w t ty e i h1 h2 g off n cap ad 1 1 news hl' hnews hc1 hr
    (fun j hj => by rw [cell_of_row w g _ cur e (0, 0) k3, Array.getElem?_eq_getElem (by omega)]; rfl) (fun j hj => by simp [World.frozen?, k3])
   obtain ⟨cur', c1, c2, c3, c4, c5⟩ := setCells_row g news (off + n * i.size) w cur k3 hfit
   refine ⟨g, off, cap, _, hrun, ⟨by rw [List.length_append, hxl, hl, Nat.add_mul, Nat.one_mul], .inr ⟨g, off, cap, cur', rfl, k2, c1, hr, k5, by rw [c2]; exact k6, fun j hj => ?_⟩⟩, by simpa [Value.ownBlock] using c5, .inl rfl, Nat.lt_of_lt_of_le hg c5.size⟩
   rw [List.length_append] at hj
   by_cases e1 : j < xs.length
   ·rw [List.getElem_append_left e1, c3 _ (by omega)]
    exact k7 j e1
   ·rw [List.getElem_append_right (by omega)]
    have := c4 (j - xs.length) (by omega)
    rw [show off + n * i.size + (j - xs.length) = off + j from by omega] at this
    exact this
  ·obtain ⟨v', w', r1, r2, r3⟩ := run_append_arg_grows (P := P) w t ty e i z size bytes h1 h2 h3 h4 h5 h6 h7 ⟨g, off, none⟩ n cap xs hxl (fun j u hj => by rw [Addr.add_lit]; exact hcell j u hj) ad 1 1 news hl' hnews (by omega) b1 b2
   obtain ⟨g', cap', rfl, q1, q2⟩ := r2.form (by omega)
   exact ⟨g', 0, cap', w', r1, TailK.of_owns (own_lower r2 hbase), ⟨r3.os, r3.tape, r3.output, r3.size, fun k hk _ => r3.block k hk (by simp)⟩, .inr q1, q2⟩

/-- At a step of a region that draws. -/
theorem step_append_tail {P : Program} (w : World) {ops : Array Oper} {o : Oper} {a : Act} {K : Act → World → Prop} {Q : Exit → Act → World → Prop} {E : Prop} (hgd : o.guard = none) (s x : Operand) (t : TypeId)
  (ho : o.op = .call { callee := .builtin .append, args := #[s, x], argTypes := #[t, t] })
  (base : Nat) (e : TypeId) (i : TypeInfo) (z : Value) (size bytes : Nat) (ht : P.underlying t = some (.slice e)) (hi : P.info? e = some i) (hz : i.zero = some z)
  (hsize : i.size = size) (hby : i.bytes = bytes) (hzs : z.cells.size = size) (hsz : 0 < size)
  (v : Value) (n : Nat) (xs : List Value) (hs : a.eval s = v) (hown : TailK w base e size v n xs)
  (ad : Addr) (news : List Value) (hx : a.eval x = .slice (some ad) 1 1) (hl : news.length = size) (hnews : ∀ j u, news[j]? = some u → w.cell? (ad.add j) = some u) (h1 : ∀ u ∈ news, u.oneCell' = true)
  (h63 : n + 1 ≤ maxLen) (hbytes : (n + 1) * bytes ≤ 140737488355328) (hbase : base ≤ w.heap.size)
  (h : ∀ g off cap w', TailK w' base e size (.slice (some ⟨g, off, none⟩) (n + 1) cap) (n + 1) (xs ++ news) → w.grownBy w' v.ownBlock → (v.ownBlock = some g ∨ w.heap.size ≤ g) → g < w'.heap.size → K (a.put o.dst (.slice (some ⟨g, off, none⟩) (n + 1) cap)) w') :
  if Region.wanted o (yielded ops a.tmps) = true then Oper.wp P o a w K Q else E := by
 have hw : Region.wanted o (yielded ops a.tmps) = true := by simp [Region.wanted, hgd]
 rw [if_pos hw]
 obtain ⟨g, off, cap, w', hr, h2, h3, h4, h5⟩ := run_append_tail (P := P) w t o.type base e i z size bytes ht hi hz hsize hby hzs hsz v n xs hown ad news hl hnews h1 h63 hbytes hbase
 unfold Oper.wp execOp
 simp only [ho, resolve, invoke, builtin, Sem.run_bind, Sem.run_pure, Result.andThen_ok, List.map_toArray, List.map_cons, List.map_nil, hs, hx, hr]
 exact h g off cap w' h2 h3 h4 h5

end Go.Proofs.YtaabkeejbhdenaaGreatDoor

namespace Go.Proofs.YtaabkeejbhdenaaGreatDoor
open Go Go.RowKit

/-- The two lists of the net. -/
def DMem (B : Nat) (st : DNet) (vr ve : Value) (w : World) : Prop :=
 (∃ vs, OwnIntss 66 2 B w vr vs st.rows) ∧ w.ownsRow B 73 3 ve st.edges.length (st.edges.flatMap encE)
theorem DMem.below {B : Nat} {st : DNet} {vr ve : Value} {w w' : World} (h : DMem B st vr ve w) (hb : Below w.heap.size w w') : DMem B st vr ve w' := by
 obtain ⟨⟨vs, h1⟩, h2⟩ := h
 exact ⟨⟨vs, h1.below hb⟩, owns_below h2 hb⟩

theorem DMem.start {W : World} {B B2 : Nat} {rv : Value} {xs : List Int} (hB : B ≤ B2) (hB2 : B ≤ W.heap.size) (hr : W.ownsRow B2 2 1 rv xs.length (xs.map (Value.int .i64))) :
  DMem B ⟨[xs], []⟩ (.slice (some ⟨W.heap.size, 0, none⟩) 1 1) (.slice (some ⟨W.heap.size + 1, 0, none⟩) 0 0) ((W.alloc (.cells #[rv] 66)).alloc (.cells #[] 73)) := by
 have hlt := hr.lt
 obtain ⟨W2, hW2⟩ : ∃ W2, W2 = W.alloc (.cells #[rv] 66) := ⟨_, rfl⟩
 have hs2 : W2.heap.size = W.heap.size + 1 := by rw [hW2]; simp
 have r2 : W2.ownsRow B 66 1 (.slice (some ⟨W.heap.size, 0, none⟩) 1 1) 1 [rv] := by
  rw [hW2]; exact World.ownsRow_lit (size := 1) W #[rv] 1 hB2 (by decide) rfl
 have r1 : W2.ownsRow B 2 1 rv xs.length (xs.map (Value.int .i64)) := by
  rw [hW2]; exact own_lower (hr.alloc _) hB
 rw [← hW2, ← hs2]
 clear hW2
 refine ⟨⟨[rv], rfl, r2.alloc _, ?_, ?_, ?_⟩, World.ownsRow_lit (size := 3) W2 #[] 0 (by omega) (by decide) rfl⟩
 ·intro i hi hi'
  obtain rfl : i = 0 := by simp at hi; omega
  simpa using r1.alloc _
 ·intro i j hi hj hij
  simp at hi hj
  omega
 ·intro i hi
  obtain rfl : i = 0 := by simp at hi; omega
  show rv.ownBlock = none ∨ rv.ownBlock ≠ some W.heap.size
  cases hb : rv.ownBlock with
  | none => exact .inl rfl
  | some b =>
   refine .inr fun e => ?_
   have := (hlt b hb).2
   have := Option.some.inj e
   omega

theorem DMem.push_row {B B2 : Nat} {st : DNet} {xs : List Int} {vr ve v' rv : Value} {wC wF w1 : World} {vs : List Value} (hr : OwnIntss 66 2 B wC vr vs st.rows) (he : wC.ownsRow B 73 3 ve st.edges.length (st.edges.flatMap encE))
  (hb : Below wC.heap.size wC wF) (hrow : wF.ownsRow B2 2 1 rv xs.length (xs.map (Value.int .i64))) (hB2 : wC.heap.size ≤ B2) (hB : B ≤ wC.heap.size) (hg : wF.grownBy w1 vr.ownBlock) (hv : w1.ownsRow B 66 1 v' (vs.length + 1) (vs ++ [rv])) :
  DMem B ⟨st.rows ++ [xs], st.edges⟩ v' ve w1 := by
 refine ⟨⟨vs ++ [rv], ?_⟩, ?_⟩
 ·exact OwnIntss.push (B := B2) (xs := xs) (by decide) hr hB2 hb hrow (Nat.le_trans hB hB2) hg hv
 ·exact (owns_below he hb).kept hg (own_types (owns_below he hb) (owns_below hr.2.1 hb) (by decide))

theorem DMem.push_edge {B : Nat} {st : DNet} {e : Edge} {vr ve v' : Value} {wE wF w1 : World} (h : DMem B st vr ve wE) (hb : Below wE.heap.size wE wF) (hg : wF.grownBy w1 ve.ownBlock)
  (hv : w1.ownsRow B 73 3 v' (st.edges.length + 1) (st.edges.flatMap encE ++ encE e)) : DMem B ⟨st.rows, st.edges ++ [e]⟩ vr v' w1 := by
 obtain ⟨⟨vs, h1⟩, h2⟩ := h.below hb
 refine ⟨⟨vs, h1.kept hg (own_types h1.2.1 h2 (by decide)) (fun i hi => ?_)⟩, ?_⟩
 ·exact own_types (h1.2.2.1 i hi (by rw [← h1.1]; exact hi)) h2 (by decide)
 ·simpa using hv

/-- One row as a slice. -/
theorem OwnIntss.rowAt {eo ei lo : Nat} {w : World} {v : Value} {vs : List Value} {rows : List (List Int)} (h : OwnIntss eo ei lo w v vs rows) {n : Nat} (hn : n < rows.length) :
  ∃ b c u, v = .slice (some ⟨b, 0, none⟩) rows.length c ∧ b < w.heap.size ∧ w.cell? ⟨b, n, none⟩ = some u ∧ w.ownsRow lo ei 1 u rows[n].length (rows[n].map (Value.int .i64)) ∧ SliceK 1 encI lo w u rows[n] := by
 obtain ⟨h1, h2, h3, -, -⟩ := h
 have hnv : n < vs.length := by omega
 have h4 := h3 n hnv hn
 rcases h2.2 with ⟨-, h⟩ | ⟨b, c, cur, rfl, -, hg, -⟩
 ·omega
 ·have hl := (Array.getElem?_eq_some_iff.1 hg).1
  have c1 := h2.cellAt n (by omega)
  rw [List.getElem?_eq_getElem hnv] at c1
  exact ⟨b, c, vs[n], by rw [h1], hl, c1, h4, SliceK.of_owns (enc := encI) encI_len rfl (by rw [flat_encI]; exact h4)⟩

end Go.Proofs.YtaabkeejbhdenaaGreatDoor

namespace Go.Proofs.YtaabkeejbhdenaaGreatDoor
open Go Go.RowKit

def isVal (n : Int) : Bool := decide (0 ≤ n) && decide (n ≤ 63)

theorem areValues1_any (n : Int) (w : World) : Calls Tryz.prog 213 #[.int .i64 n] w fun e w' => e = .returned (.bool (!isVal n)) ∧ w = w' := by
 go_enter Tryz.func213, Tryz.ntmps213
 go_wp2_with fail
 refine (isValue_any _ _).mono ?_
 rintro e w' ⟨rfl, rfl⟩
 have HF : Hid ((!decide (0 ≤ n) || !decide (n ≤ 63)) = !isVal n) := by unfold Hid isVal; rw [Bool.not_and]
 go_wp2_with fail
 go_ret
 exact ⟨ret_bool HF.out, rfl⟩

set_option maxHeartbeats 1000000 in
theorem IndexFunc_vals (lo : Nat) (v : Value) (xs : List Int) (w : World) (hv : SliceK 1 encI lo w v xs) :
  Calls Tryz.prog 163 #[v, .func (.func 213) #[] #[]] w fun e w' => ∃ r : Int, e = .returned (.int .i64 r) ∧ decide (0 ≤ r) = !xs.all isVal ∧ w = w' := by
 obtain ⟨a, c, rfl, hcn, hcc, hrow⟩ := hv
 go_enter Tryz.func163, Tryz.ntmps163
 go_wp2_with fail
 go_loop [8] (fun i => ∃ k : Nat, k ≤ xs.length ∧ i = .int .i64 k ∧ ∀ j (h : j < xs.length), j < k → isVal xs[j] = true) (fun i => xs.length - (intOf i).toNat)
 case atStart => exact ⟨0, Nat.zero_le _, rfl, fun _ _ h => by omega⟩
 case round =>
  obtain ⟨k, hk, rfl, ha⟩ := hrel
  have HA := Lib.hid ha
  clear ha
  by_cases hlt : k < xs.length
  ·obtain ⟨b1, o1, rfl, -, hbs, c1⟩ := hrow.one hlt
   simp only [encI, List.getElem?_cons_zero] at c1
   clear hrow
   obtain ⟨b, hb⟩ : ∃ b, isVal xs[k] = b := ⟨_, rfl⟩
   have HB := Lib.hid hb
   clear hb
   go_wp2_with fail
   refine (areValues1_any _ _).mono ?_
   rintro e w' ⟨rfl, rfl⟩
   rw [HB.out]
   cases b
   ·go_wp2_with fail
    go_ret
    refine ⟨_, rfl, ?_, rfl⟩
    have h1 : xs.all isVal = false := by
     rw [List.all_eq_false]
     exact ⟨xs[k], List.getElem_mem _, by rw [HB.out]; simp⟩
    rw [h1]; simp
   ·go_wp2_with fail
    go_round
    case rel => exact ⟨k + 1, by omega, by go_num, fun j h hj => by
     by_cases e : j = k
     ·subst e; exact HB.out
     ·exact HA.out j h (by omega)⟩
    case measure => simp [intOf]; omega
  ·clear hrow
   go_wp2_with fail
   go_ret
   refine ⟨_, rfl, ?_, rfl⟩
   have h1 : xs.all isVal = true := by
    rw [List.all_eq_true]
    intro x hxm
    obtain ⟨j, hj, rfl⟩ := List.mem_iff_getElem.1 hxm
    exact HA.out j hj (by omega)
   rw [h1]; simp

theorem ContainsFunc_vals (lo : Nat) (v : Value) (xs : List Int) (w : World) (hv : SliceK 1 encI lo w v xs) :
  Calls Tryz.prog 212 #[v, .func (.func 213) #[] #[]] w fun e w' => e = .returned (.bool (!xs.all isVal)) ∧ w = w' := by
 have HV := Lib.hid hv
 clear hv
 go_enter Tryz.func212, Tryz.ntmps212
 go_wp2_with fail
 refine (IndexFunc_vals lo v xs _ HV.out).mono ?_
 rintro e w' ⟨r, rfl, hr, rfl⟩
 have HR := Lib.hid hr
 clear hr
 go_wp2_with fail
 go_ret
 exact ⟨ret_bool HR.out, rfl⟩

theorem areValues_any (lo : Nat) (v : Value) (xs : List Int) (w : World) (hv : SliceK 1 encI lo w v xs) :
  Calls Tryz.prog 170 #[v] w fun e w' => e = .returned (.bool (xs.all isVal)) ∧ w = w' := by
 have HV := Lib.hid hv
 clear hv
 go_enter Tryz.func170, Tryz.ntmps170
 go_wp2_with fail
 refine (ContainsFunc_vals lo v xs _ HV.out).mono ?_
 rintro e w' ⟨rfl, rfl⟩
 go_wp2_with fail
 go_ret
 exact ⟨ret_bool (by simp), rfl⟩

end Go.Proofs.YtaabkeejbhdenaaGreatDoor

namespace Go.Proofs.YtaabkeejbhdenaaGreatDoor
open Go Go.RowKit

/-- Words read as numbers. -/
def decs (ss : List ByteArray) : List Int := ss.map fun s => (readDec s.data.toList).getD 0
def decsOk (ss : List ByteArray) : Bool := ss.all fun s => (readDec s.data.toList).isSome
def RetNums (ss : List ByteArray) (w : World) (e : Ending) (w' : World) : Prop :=
 ∃ v, e = .returned (.tuple #[v, .bool (decsOk ss)]) ∧ Below w.heap.size w w' ∧ (decsOk ss = true → w'.ownsRow w.heap.size 2 1 v (decs ss).length ((decs ss).map (Value.int .i64)))

theorem decsOk_none {ss : List ByteArray} {j : Nat} (h : j < ss.length) (hn : readDec ss[j].data.toList = none) : decsOk ss = false := by
 unfold decsOk
 rw [List.all_eq_false]
 exact ⟨ss[j], List.getElem_mem _, by rw [hn]; simp⟩

set_option maxRecDepth 100000 in
set_option maxHeartbeats 2000000 in
theorem readNumbers_any (lo : Nat) (v : Value) (ss : List ByteArray) (w : World) (hs : ∀ i (h : i < ss.length), ss[i].size ≤ 1073741824) (hl : ss.length ≤ 1073741824) (hv : SliceK 1 encS lo w v ss) (g : Glob w) :
  Calls Tryz.prog 139 #[v] w (RetNums ss w) := by
 obtain ⟨a, c, rfl, hcn, hcc, hrow⟩ := hv
 obtain ⟨i0, hi, hz0, hz1, hz2⟩ := info_parts info_int64
 have G := Lib.hid g
 have HSZ := Lib.hid hs
 clear g hs
 go_enter Tryz.func139, Tryz.ntmps139
 go_wp2_with fail
 go_loopw [4, 11] (fun v i wr => ∃ k : Nat, k ≤ ss.length ∧ i = .int .i64 k ∧ Below w.heap.size w wr ∧ wr.ownsRow w.heap.size 2 1 v k ((decs (ss.take k)).map (Value.int .i64)) ∧ ∀ q (h : q < ss.length), q < k → (readDec ss[q].data.toList).isSome = true) (fun _ i _ => ss.length - (intOf i).toNat)
 case atStart => exact ⟨0, Nat.zero_le _, rfl, Below.refl _ _, World.ownsRow_nil _ _ _ _, fun _ _ h => by omega⟩
 case round =>
  obtain ⟨k, hk, rfl, hb, ho, ha⟩ := hrel
  have HA := Lib.hid ha
  have HB := Lib.hid hb
  have HO := Lib.hid ho
  have hsz := hb.size
  clear ha hb ho
  by_cases hlt : k < ss.length
  ·obtain ⟨b1, o1, rfl, -, hbs, c1⟩ := (hrow.below HB.out).one hlt
   simp only [encS, List.getElem?_cons_zero] at c1
   clear hrow
   obtain ⟨p, hp⟩ : ∃ p, p = ss[k] := ⟨_, rfl⟩
   rw [← hp] at c1
   have HP := Lib.hid hp
   have hpz : p.size ≤ 1073741824 := by rw [hp]; exact HSZ.out k hlt
   clear hp
   obtain ⟨o, hd⟩ : ∃ o, readDec p.data.toList = o := ⟨_, rfl⟩
   have HD := Lib.hid hd
   clear hd
   go_wp2_with fail
   refine (ReadDecimal_any _ _ hpz (G.out.below HB.out)).mono ?_
   rintro e w1 ⟨rfl, hb1⟩
   have HB1 := Lib.hid hb1
   have hs1 := hb1.size
   clear hb1
   rw [HD.out]
   cases o with
   | none =>
    simp only [Option.isSome_none, Option.getD_none]
    go_wp2_with fail
    go_ret2
    have hf : decsOk ss = false := decsOk_none hlt (by rw [← HP.out]; exact HD.out)
    exact ⟨.slice none 0 0, by rw [hf]; rfl, HB.out.trans (HB1.out.mono hsz), fun h => by rw [hf] at h; cases h⟩
   | some n =>
    simp only [Option.isSome_some, Option.getD_some]
    have HO1 := Lib.hid (owns_below HO.out HB1.out)
    have HBB := Lib.hid (HB.out.trans (HB1.out.mono hsz))
    clear c1
    go_wp2_with (at_builtin; refine wpList_append_own _ rfl _ _ 66 rfl w.heap.size 2 i0 (.int .i64 0) 1 8 Tryz.underlying66 hi hz0 hz1 hz2 rfl (by decide) _ _ _ rfl (HO1.out.alloc _) ⟨w1.heap.size, 0, none⟩ 1 1 [.int .i64 n] rfl rfl ?c1 ?c2 ?c3 ?c4 ?c5 ?_)
    case c1 => exact (cell_one_new _ _ _)
    case c2 => intro u hu; simp at hu; subst hu; rfl
    case c3 => simp [maxLen]; omega
    case c4 => omega
    case c5 => simp; omega
    intro v' w3 ho1 hg1 _
    have HO2 : Hid (w3.ownsRow w.heap.size 2 1 v' (k + 1) ((decs (ss.take (k + 1))).map (Value.int .i64))) := by
     have e : (decs (ss.take (k + 1))).map (Value.int .i64) = (decs (ss.take k)).map (Value.int .i64) ++ [.int .i64 n] := by
      unfold decs
      rw [List.take_succ_eq_append_getElem hlt, List.map_append, List.map_append, ← HP.out]
      simp [HD.out]
     unfold Hid
     rw [e]
     exact ho1
    have HBX : Hid (Below w.heap.size w w3) := (HBB.out.alloc (by omega) _).grown hg1 (by simp; omega) (fun b e => (HO1.out.lt b e).1)
    clear ho1 hg1
    go_wp2
    go_roundw
    case rel => exact ⟨k + 1, by omega, by go_num, HBX.out, HO2.out, fun q h h' => by
     by_cases e : q = k
     ·subst e; rw [← HP.out, HD.out]; rfl
     ·exact HA.out q h (by omega)⟩
    case measure => simp [intOf]; omega
  ·obtain rfl : k = ss.length := by omega
   have HF : Hid (decsOk ss = true) := by
    unfold Hid decsOk
    rw [List.all_eq_true]
    intro x hx
    obtain ⟨q, hq, rfl⟩ := List.mem_iff_getElem.1 hx
    exact HA.out q hq hq
   have HO2 : Hid (wr.ownsRow w.heap.size 2 1 u4 (decs ss).length ((decs ss).map (Value.int .i64))) := by
    have := HO.out
    rw [List.take_length] at this
    unfold Hid
    rw [show (decs ss).length = ss.length from by simp [decs]]
    exact this
   clear hrow HO
   go_wp2_with fail
   go_ret2
   exact ⟨_, by rw [HF.out]; rfl, HB.out, fun _ => HO2.out⟩

end Go.Proofs.YtaabkeejbhdenaaGreatDoor

namespace Go.Proofs.YtaabkeejbhdenaaGreatDoor
open Go Go.RowKit

def wordsOf (xs : List Int) : List ByteArray := xs.map fun n => ⟨(Lib.itoa n).toArray⟩

set_option maxHeartbeats 1000000 in
theorem joined_any (v : Value) (sep : ByteArray) (lo : Nat) (xs : List Int) (w : World) (hn : xs.length ≤ 1048576) (hb : ∀ i (h : i < xs.length), -9223372036854775808 ≤ xs[i] ∧ xs[i] ≤ 9223372036854775807) (hv : SliceK 1 encI lo w v xs) (g : Glob w)
  (hlen : (Lib.join ((wordsOf xs).map (·.data.toList)) sep.data.toList).length ≤ 1073741824) :
  Calls Tryz.prog 60 #[v, .string sep] w fun e w' => e = .returned (.string ⟨(Lib.join ((wordsOf xs).map (·.data.toList)) sep.data.toList).toArray⟩) ∧ Below w.heap.size w w' := by
 obtain ⟨a, ca, rfl, hna, hca, ha⟩ := hv
 obtain ⟨i0, hi, hz0, hz1, hz2⟩ := info_parts info_str
 have HBD := Lib.hid hb
 have G := Lib.hid g
 have HLEN := Lib.hid hlen
 clear hb g hlen
 go_enter Tryz.func60, Tryz.ntmps60
 go_wp2_with (at_make; refine wpList_make_full _ rfl _ _ 22 rfl w.heap.size 9 i0 _ 1 Tryz.underlying22 hi hz0 hz1 .i64 .i64 _ _ xs.length rfl rfl rfl rfl ?_ ?_ ?_ ?_)
 ·rw [hz2]; omega
 ·simp [maxLen]; omega
 ·exact Nat.le_refl _
 ·intro w1 ho hg
  rw [toList_madeCells_one] at ho
  have hb1 : Below w.heap.size w w1 := (Below.refl _ w).grown hg (Nat.le_refl _) (fun _ h => by cases h)
  clear hi hz0 hz1 hz2 i0
  have HO := Lib.hid ho
  clear ho hg
  go_wp2_with fail
  have hwl : (wordsOf xs).length = xs.length := by simp [wordsOf]
  go_loopw [13] (fun i wr => ∃ k : Nat, k ≤ xs.length ∧ i = .int .i64 k ∧ Below w.heap.size w wr ∧ w.heap.size < wr.heap.size ∧ wr.ownsRow w.heap.size 9 1 (.slice (some ⟨w.heap.size, 0, none⟩) xs.length xs.length) xs.length (((wordsOf xs).take k).map .string ++ List.replicate ((wordsOf xs).length - k) (.string ⟨#[]⟩))) (fun i _ => xs.length - (intOf i).toNat)
  case atStart => exact ⟨0, Nat.zero_le _, rfl, hb1, (HO.out.lt _ rfl).2, by simpa [hwl] using HO.out⟩
  case round =>
   obtain ⟨k, hk, rfl, hbl, hsl, ho⟩ := hrel
   clear HO hb1
   have HBL := Lib.hid hbl
   have HO1 := Lib.hid ho
   have hsz := hbl.size
   clear ho hbl
   by_cases hlt : k < xs.length
   ·obtain ⟨b1, o1, rfl, -, h1, c1⟩ := (ha.below HBL.out).one hlt
    simp only [encI, List.getElem?_cons_zero] at c1
    clear ha
    go_wp2_with fail
    refine (Decimal_any _ _ (HBD.out k hlt).1 (HBD.out k hlt).2 (G.out.below HBL.out)).mono ?_
    rintro e w2 ⟨rfl, hb2⟩
    have hlt' : k < (wordsOf xs).length := by omega
    have ho3 := owns_below HO1.out hb2
    have c2 := ho3.cellAt k (by omega)
    rw [filled_get _ _ _ _ hlt'] at c2
    have c3 := ho3.frozenAt k
    have ho2 := ho3.stored k (.string (wordsOf xs)[k])
    rw [filled_set _ _ _ _ hlt'] at ho2
    have hwk : (wordsOf xs)[k] = ⟨(Lib.itoa xs[k]).toArray⟩ := by simp [wordsOf]
    rw [hwk] at ho2
    have HO := Lib.hid ho2
    have HB2 := Lib.hid (HBL.out.trans (hb2.mono hsz))
    have hs2 := hb2.size
    clear ho2 ho3 hb2 HO1 HBL c1
    go_wp2
    go_roundw
    case rel => exact ⟨k + 1, by omega, by go_num, HB2.out.setCell (by exact Nat.le_refl _) _, by simp; omega, HO.out.1⟩
    case measure => simp [intOf]; omega
   ·clear ha
    obtain rfl : k = xs.length := by omega
    have ho4 : wr.ownsRow w.heap.size 9 1 (.slice (some ⟨w.heap.size, 0, none⟩) (wordsOf xs).length (wordsOf xs).length) (wordsOf xs).length ((wordsOf xs).flatMap encS) := by
     have := HO1.out
     rw [flat_encS, hwl]
     rw [hwl, ← hwl, List.take_length, Nat.sub_self, List.replicate_zero, List.append_nil, hwl] at this
     exact this
    have HC : Hid (∀ (j : Nat) x, (wordsOf xs)[j]? = some x → wr.cell? ⟨w.heap.size, 0 + j, none⟩ = some (.string x)) := by
     intro j x hx
     obtain ⟨hj, rfl⟩ := List.getElem?_eq_some_iff.1 hx
     have := ho4.cellAt j (by omega)
     rw [Nat.zero_add, this, flat_encS]
     simp [hj]
    clear ho4
    have HJ := Tryz.strings_Join w.heap.size 0 xs.length (wordsOf xs) sep wr HC.out hsl (by omega) (by omega) (Nat.le_trans HLEN.out (by decide))
    rw [hwl] at HJ
    have HJJ := Lib.hid HJ
    clear HJ
    go_wp2_with fail
    refine Calls.mono HJJ.out ?_
    rintro e w2 ⟨rfl, hb2⟩
    have HB2 := Lib.hid (HBL.out.trans (hb2.mono hsz))
    clear hb2
    go_wp2_with fail
    go_ret
    exact ⟨rfl, HB2.out⟩

end Go.Proofs.YtaabkeejbhdenaaGreatDoor

namespace Go.Proofs.YtaabkeejbhdenaaGreatDoor
open Go Go.RowKit

def labB (name : List UInt8) (xs : List Int) : Bool := if name = tauL then xs.isEmpty else isAction name && decide (xs.length ≤ 2) && xs.all isVal
def labTxt (name : List UInt8) (xs : List Int) : List UInt8 := if xs.isEmpty then name else name ++ 40 :: (Lib.join ((wordsOf xs).map (·.data.toList)) [44] ++ [41])
def RetLab (name : List UInt8) (xs : List Int) (w : World) (e : Ending) (w' : World) : Prop :=
 ∃ t : ByteArray, e = .returned (.tuple #[.string t, .bool (labB name xs)]) ∧ Below w.heap.size w w' ∧ (labB name xs = true → t.data.toList = labTxt name xs)

theorem two_digits : ∀ n : Nat, n < 64 → (Lib.decDigits n).length ≤ 2 := by
 intro n hn
 rw [Lib.decDigits_length]
 by_cases h : n < 10
 ·rw [Lib.nDigits_small h]; decide
 ·rw [Lib.nDigits_big h, Lib.nDigits_small (by omega)]; decide
theorem itoa_short {n : Int} (h : isVal n = true) : (Lib.itoa n).length ≤ 2 := by
 unfold isVal at h
 simp at h
 unfold Lib.itoa
 rw [if_neg (by omega)]
 exact two_digits _ (by omega)
theorem join_short {xs : List Int} (h2 : xs.length ≤ 2) (h : xs.all isVal = true) : (Lib.join ((wordsOf xs).map (·.data.toList)) [44]).length ≤ 5 := by
 match xs, h2, h with
 | [], _, _ => simp [wordsOf, Lib.join]
 | [x], _, h =>
  have hx := itoa_short (List.all_eq_true.1 h x (by simp))
  simp [wordsOf, Lib.join_length, Lib.lens]; omega
 | [x, y], _, h =>
  have hx := itoa_short (List.all_eq_true.1 h x (by simp))
  have hy := itoa_short (List.all_eq_true.1 h y (by simp))
  simp [wordsOf, Lib.join_length, Lib.lens]; omega

set_option maxRecDepth 100000 in
set_option maxHeartbeats 1000000 in
theorem labelOf_any (v : Value) (s : ByteArray) (lo : Nat) (xs : List Int) (w : World) (hs : s.size ≤ 1073741824) (hn : xs.length ≤ 1073741824) (hv : SliceK 1 encI lo w v xs) (g : Glob w) :
  Calls Tryz.prog 142 #[.string s, v] w (RetLab s.data.toList xs w) := by
 have HV := Lib.hid hv
 obtain ⟨a, ca, rfl, -, -, -⟩ := hv
 by_cases ht : s.toList = tauL
 ·have hb : Hid (labB s.data.toList xs = ((xs.length : Int) == 0)) := by
   unfold Hid labB
   rw [if_pos (by rw [← Lib.toList_data]; exact ht)]
   cases xs with
   | nil => rfl
   | cons x r =>
    have : (((x :: r).length : Int) == 0) = false := by rw [beq_eq_false_iff_ne]; simp; omega
    rw [this]; rfl
  have ht' : (s.toList == tauL) = true := by simpa using ht
  unfold tauL at ht ht'
  go_enter Tryz.func142, Tryz.ntmps142
  go_wp2_with fail
  go_ret2
  refine ⟨⟨#[116, 97, 117]⟩, by rw [hb.out]; rfl, Below.refl _ _, fun h => ?_⟩
  rw [hb.out] at h
  have h0 : xs = [] := List.eq_nil_of_length_eq_zero (by simpa using h)
  subst h0
  unfold labTxt
  have e : s.data.toList = [116, 97, 117] := by rw [← Lib.toList_data]; exact ht
  rw [e]
  rfl
 ·have hnt : ¬ s.data.toList = tauL := by rw [← Lib.toList_data]; exact ht
  have ht' : (s.toList == tauL) = false := by simpa using ht
  have HL : Hid (labB s.data.toList xs = (isAction s.data.toList && decide (xs.length ≤ 2) && xs.all isVal)) := by unfold Hid labB; rw [if_neg hnt]
  unfold tauL at ht ht' hnt
  obtain ⟨b, hb⟩ : ∃ b, isAction s.data.toList = b := ⟨_, rfl⟩
  have HB := Lib.hid hb
  clear hb
  cases b
  ·have HF : Hid (labB s.data.toList xs = false) := by unfold Hid; rw [HL.out, HB.out]; rfl
   go_enter Tryz.func142, Tryz.ntmps142
   go_wp2_with fail
   refine (IsAction_any _ _ hs).mono ?_
   rintro e w' ⟨rfl, rfl⟩
   rw [HB.out]
   go_wp2_with fail
   go_ret2
   exact ⟨⟨#[]⟩, by rw [HF.out]; rfl, Below.refl _ _, fun h => by rw [HF.out] at h; cases h⟩
  ·by_cases h2 : 2 < (xs.length : Int)
   ·have HF : Hid (labB s.data.toList xs = false) := by unfold Hid; rw [HL.out, decide_eq_false (by omega)]; simp
    go_enter Tryz.func142, Tryz.ntmps142
    go_wp2_with fail
    refine (IsAction_any _ _ hs).mono ?_
    rintro e w' ⟨rfl, rfl⟩
    rw [HB.out]
    go_wp2_with fail
    go_ret2
    exact ⟨⟨#[]⟩, by rw [HF.out]; rfl, Below.refl _ _, fun h => by rw [HF.out] at h; cases h⟩
   ·cases hall : xs.all isVal
    ·have HF : Hid (labB s.data.toList xs = false) := by unfold Hid; rw [HL.out, hall]; simp
     have HALL := Lib.hid hall
     clear hall
     go_enter Tryz.func142, Tryz.ntmps142
     go_wp2_with fail
     refine (IsAction_any _ _ hs).mono ?_
     rintro e w' ⟨rfl, rfl⟩
     rw [HB.out]
     go_wp2_with fail
     refine (areValues_any lo _ xs _ HV.out).mono ?_
     rintro e w' ⟨rfl, rfl⟩
     rw [HALL.out]
     go_wp2_with fail
     go_ret2
     exact ⟨⟨#[]⟩, by rw [HF.out]; rfl, Below.refl _ _, fun h => by rw [HF.out] at h; cases h⟩
    ·have HF : Hid (labB s.data.toList xs = true) := by unfold Hid; rw [HL.out, hall, HB.out, decide_eq_true (by omega)]; rfl
     have HALL := Lib.hid hall
     clear hall
     by_cases h0 : xs.length = 0
     ·have h0' : ((xs.length : Int) == 0) = true := by rw [beq_iff_eq]; omega
      have HT : Hid (labTxt s.data.toList xs = s.data.toList) := by unfold Hid labTxt; rw [if_pos (by rw [List.eq_nil_of_length_eq_zero h0]; rfl)]
      have HV0 : Hid (SliceK 1 encI lo w (.slice a 0 ca) xs) := by have := HV.out; rw [h0] at this; exact this
      go_enter Tryz.func142, Tryz.ntmps142
      go_wp2_with fail
      refine (IsAction_any _ _ hs).mono ?_
      rintro e w' ⟨rfl, rfl⟩
      rw [HB.out]
      go_wp2_with fail
      refine (areValues_any lo _ xs _ HV0.out).mono ?_
      rintro e w' ⟨rfl, rfl⟩
      rw [HALL.out]
      go_wp2_with fail
      go_ret2
      exact ⟨s, by rw [HF.out]; rfl, Below.refl _ _, fun _ => HT.out.symm⟩
     ·have h0' : ((xs.length : Int) == 0) = false := by rw [beq_eq_false_iff_ne]; omega
      have HT : Hid (labTxt s.data.toList xs = s.data.toList ++ 40 :: (Lib.join ((wordsOf xs).map (·.data.toList)) [44] ++ [41])) := by
       unfold Hid labTxt; rw [if_neg (by rw [List.isEmpty_iff_length_eq_zero]; exact h0)]
      have HLEN : Hid ((Lib.join ((wordsOf xs).map (·.data.toList)) (⟨#[44]⟩ : ByteArray).data.toList).length ≤ 1073741824) := Nat.le_trans (join_short (by omega) HALL.out) (by decide)
      have HBD : Hid (∀ i (h : i < xs.length), -9223372036854775808 ≤ xs[i] ∧ xs[i] ≤ 9223372036854775807) := by
       intro i hi
       have := List.all_eq_true.1 HALL.out xs[i] (List.getElem_mem _)
       unfold isVal at this
       simp at this
       omega
      have hlen : (Lib.join (List.map (fun x => x.data.toList) (wordsOf xs)) [44]).length ≤ 1073741824 := HLEN.out
      have hq1 : ¬ 9223372036854775807 < s.size + 1 + (Lib.join (List.map (fun x => x.data.toList) (wordsOf xs)) [44]).length := by omega
      have hq2 : ¬ 9223372036854775807 < s.size + 1 + (Lib.join (List.map (fun x => x.data.toList) (wordsOf xs)) [44]).length + 1 := by omega
      clear hlen
      go_enter Tryz.func142, Tryz.ntmps142
      go_wp2_with fail
      refine (IsAction_any _ _ hs).mono ?_
      rintro e w' ⟨rfl, rfl⟩
      rw [HB.out]
      go_wp2_with fail
      refine (areValues_any lo _ xs _ HV.out).mono ?_
      rintro e w' ⟨rfl, rfl⟩
      rw [HALL.out]
      go_wp2_with fail
      refine (joined_any _ ⟨#[44]⟩ lo xs _ (by omega) HBD.out HV.out g HLEN.out).mono ?_
      rintro e w2 ⟨rfl, hb2⟩
      have HB2 := Lib.hid hb2
      clear hb2
      go_wp2_with fail
      go_ret2
      refine ⟨_, by rw [HF.out]; rfl, HB2.out, fun _ => ?_⟩
      rw [HT.out]
      simp

end Go.Proofs.YtaabkeejbhdenaaGreatDoor

namespace Go.Proofs.YtaabkeejbhdenaaGreatDoor
open Go Go.RowKit

/-- The parts that readLabel reads. -/
def partsB (rest : List UInt8) : List ByteArray := Lib.splitB ⟨#[44]⟩ 0 (Lib.countB ⟨(Lib.trimSuffix rest [41]).toArray⟩ ⟨#[44]⟩) ⟨(Lib.trimSuffix rest [41]).toArray⟩
def readOk (l : List UInt8) : Bool :=
 if (Lib.cut l [40]).2.2 = true then
  decsOk (partsB (Lib.cut l [40]).2.1) && labB (Lib.cut l [40]).1 (decs (partsB (Lib.cut l [40]).2.1)) && decide (labTxt (Lib.cut l [40]).1 (decs (partsB (Lib.cut l [40]).2.1)) = l)
 else labB (Lib.cut l [40]).1 [] && decide ((Lib.cut l [40]).1 = l)
def RetRead (l : List UInt8) (w : World) (e : Ending) (w' : World) : Prop := ∃ n v, e = .returned (.tuple #[n, v, .bool (readOk l)]) ∧ Below w.heap.size w w' ∧ (readOk l = true → n = .string ⟨(Lib.cut l [40]).1.toArray⟩)

theorem splitB_mem (sep : ByteArray) : ∀ (k : Nat) (s p : ByteArray), p ∈ Lib.splitB sep 0 k s → p.size ≤ s.size
 | 0, s, p, h => by simp [Lib.splitB] at h; subst h; exact Nat.le_refl _
 | k + 1, s, p, h => by
  unfold Lib.splitB at h
  split at h
  ·simp at h; subst h; exact Nat.le_refl _
  ·rcases List.mem_cons.1 h with rfl | h
   ·rw [ByteArray.size_extract]; omega
   ·have := splitB_mem sep k _ p h
    rw [ByteArray.size_extract] at this; omega

theorem cut_size (l : List UInt8) : (Lib.cut l [40]).1.length ≤ l.length ∧ (Lib.cut l [40]).2.1.length ≤ l.length := by
 unfold Lib.cut
 split
 ·simp; omega
 ·simp

set_option maxRecDepth 100000 in
set_option maxHeartbeats 1000000 in
theorem readLabel_any (s : ByteArray) (w : World) (hs : s.size ≤ 1048576) (g : Glob w) : Calls Tryz.prog 93 #[.string s] w (RetRead s.data.toList w) := by
 have G := Lib.hid g
 obtain ⟨m, hm⟩ := g.max
 have HM := Lib.hid hm
 clear g hm
 have hz := cut_size s.data.toList
 rw [len_data] at hz
 obtain ⟨l1, hl1⟩ : ∃ l1, (Lib.cut s.data.toList [40]).1 = l1 := ⟨_, rfl⟩
 obtain ⟨l2, hl2⟩ : ∃ l2, (Lib.cut s.data.toList [40]).2.1 = l2 := ⟨_, rfl⟩
 rw [hl1, hl2] at hz
 have HNAME := Lib.hid hl1
 have HR0 : Hid (readOk s.data.toList = if (Lib.cut s.data.toList [40]).2.2 = true then decsOk (partsB l2) && labB l1 (decs (partsB l2)) && decide (labTxt l1 (decs (partsB l2)) = s.data.toList) else labB l1 [] && decide (l1 = s.data.toList)) := by
  unfold Hid readOk
  rw [hl1, hl2]
 have HCUT : Hid (Calls Tryz.prog 138 #[.string s, .string ⟨#[40]⟩] w fun e w' => e = .returned (.tuple #[.string ⟨l1.toArray⟩, .string ⟨l2.toArray⟩, .bool (Lib.cut s.data.toList [40]).2.2]) ∧ ∃ n, w' = w.drewN n) := by
  have := Tryz.strings_Cut s ⟨#[40]⟩ m w (by omega) HM.out
  unfold Hid
  rw [← hl1, ← hl2]
  exact this
 have hz1 : (⟨l1.toArray⟩ : ByteArray).size ≤ 1073741824 := by rw [Lib.size_eq]; simp; omega
 clear hl1 hl2
 cases hmore : (Lib.cut s.data.toList [40]).2.2
 ·rw [hmore] at HCUT HR0
  have HN0 : Hid (SliceK 1 encI 0 w (.slice none 0 0) []) := ⟨none, 0, rfl, by simp, by simp, .inl rfl⟩
  go_enter Tryz.func93, Tryz.ntmps93
  go_wp2_with fail
  refine Calls.mono HCUT.out ?_
  rintro e w1 ⟨rfl, k, rfl⟩
  have HB0 : Hid (Below w.heap.size w (w.drewN k)) := below_drewN (Below.refl _ _) k
  go_wp2_with fail
  refine (labelOf_any (.slice none 0 0) ⟨l1.toArray⟩ 0 [] _ hz1 (by simp) (HN0.out.below HB0.out) (G.out.below HB0.out)).mono ?_
  rintro e w2 ⟨t, rfl, hb2, ht⟩
  have HB2 := Lib.hid (HB0.out.trans (hb2.mono HB0.out.size))
  have HT := Lib.hid ht
  clear hb2 ht
  change Hid (labB l1 [] = true → t.data.toList = labTxt l1 []) at HT
  show _
  obtain ⟨b, hb⟩ : ∃ b, labB l1 [] = b := ⟨_, rfl⟩
  rw [show labB (⟨l1.toArray⟩ : ByteArray).data.toList [] = b from hb]
  cases b
  ·have HF : Hid (readOk s.data.toList = false) := by unfold Hid; rw [HR0.out, hb]; simp
   clear hb
   go_wp2_with fail
   go_ret3
   exact ⟨.string ⟨#[]⟩, .slice none 0 0, by rw [HF.out]; rfl, HB2.out, fun h => by rw [HF.out] at h; cases h⟩
  ·have htt : t.data.toList = l1 := HT.out hb
   by_cases heq : l1 = s.data.toList
   ·have HEQ := Lib.hid heq
    have HF : Hid (readOk s.data.toList = true) := by unfold Hid; rw [HR0.out, hb]; simp [heq]
    have hq : (t.toList == s.toList) = true := by rw [Lib.toList_data, Lib.toList_data, htt, heq]; simp
    clear hb htt
    go_wp2_with fail
    go_ret3
    exact ⟨_, _, by rw [HF.out]; rfl, HB2.out, fun _ => by rw [HNAME.out, HEQ.out]; rfl⟩
   ·have HF : Hid (readOk s.data.toList = false) := by unfold Hid; rw [HR0.out, hb]; simp [heq]
    have hq : (t.toList == s.toList) = false := by rw [Lib.toList_data, Lib.toList_data, htt]; simpa using heq
    clear hb htt heq
    go_wp2_with fail
    go_ret3
    exact ⟨.string ⟨#[]⟩, .slice none 0 0, by rw [HF.out]; rfl, HB2.out, fun h => by rw [HF.out] at h; cases h⟩
 ·rw [hmore] at HCUT HR0
  obtain ⟨r, hr⟩ : ∃ r : ByteArray, r = ⟨(Lib.trimSuffix l2 [41]).toArray⟩ := ⟨_, rfl⟩
  have hrz : r.size ≤ 1073741824 := by
   rw [hr, Lib.size_eq]
   show (Lib.trimSuffix l2 [41]).length ≤ _
   unfold Lib.trimSuffix
   split
   ·rw [List.length_take]; omega
   ·omega
  obtain ⟨ps, hps⟩ : ∃ ps, ps = partsB l2 := ⟨_, rfl⟩
  have hps' : Lib.splitB ⟨#[44]⟩ 0 (Lib.countB r ⟨#[44]⟩) r = ps := by rw [hps, hr]; rfl
  have hpl : ps.length = Lib.countB r ⟨#[44]⟩ + 1 := by rw [← hps']; exact Lib.splitB_all _ (by decide) 0 _ _ rfl
  rw [← hps] at HR0
  have hl2z : (⟨l2.toArray⟩ : ByteArray).size ≤ 9223372036854775807 := by rw [Lib.size_eq]; simp; omega
  have HTS : Hid (∀ w', Calls Tryz.prog 141 #[.string ⟨l2.toArray⟩, .string ⟨#[41]⟩] w' fun e w2 => e = .returned (.string r) ∧ w2 = w') := by
   intro w'
   rw [hr]
   exact Tryz.strings_TrimSuffix ⟨l2.toArray⟩ ⟨#[41]⟩ w' hl2z
  have HSP : Hid (∀ w', w'.cell? ⟨0, 0, none⟩ = some (.int .i64 m) → Calls Tryz.prog 140 #[.string r, .string ⟨#[44]⟩] w' fun e w2 => e = .returned (.slice (some ⟨w'.heap.size, 0, none⟩) ps.length ps.length) ∧ w2 = w'.alloc (.cells (ps.map Value.string).toArray 9)) := by
   intro w' hw
   rw [hpl, ← hps']
   exact Tryz.strings_Split r ⟨#[44]⟩ m w' (by omega) hw (by decide)
  have HPZ : Hid (∀ i (h : i < ps.length), ps[i].size ≤ 1073741824) := by
   intro i hi
   have h1 : ps[i] ∈ Lib.splitB ⟨#[44]⟩ 0 (Lib.countB r ⟨#[44]⟩) r := by rw [hps']; exact List.getElem_mem _
   exact Nat.le_trans (splitB_mem _ _ _ _ h1) hrz
  have hrz2 : r.size ≤ 1048576 := by
   rw [hr, Lib.size_eq]
   show (Lib.trimSuffix l2 [41]).length ≤ _
   unfold Lib.trimSuffix
   split
   ·rw [List.length_take]; omega
   ·omega
  have hplen : ps.length ≤ 1048577 := by
   have := Lib.countB_le ⟨#[44]⟩ (by decide) _ r (Nat.le_refl _)
   omega
  clear hrz2
  clear hps hps' hpl hr hl2z hrz hz
  go_enter Tryz.func93, Tryz.ntmps93
  go_wp2_with fail
  refine Calls.mono HCUT.out ?_
  rintro e w1 ⟨rfl, k, rfl⟩
  have HB0 : Hid (Below w.heap.size w (w.drewN k)) := below_drewN (Below.refl _ _) k
  go_wp2_with fail
  refine Calls.mono (HTS.out _) ?_
  rintro e w1 ⟨rfl, rfl⟩
  go_wp2_with fail
  refine Calls.mono (HSP.out _ (keeps HB0.out (World.block_lt_of_cell? w _ HM.out) HM.out)) ?_
  rintro e w1 ⟨rfl, hw1⟩
  have HB1 : Hid (Below w.heap.size w w1) := by
   unfold Hid
   rw [hw1]
   exact HB0.out.alloc HB0.out.size _
  have HPS : Hid (SliceK 1 encS 0 w1 (.slice (some ⟨(w.drewN k).heap.size, 0, none⟩) ps.length ps.length) ps) := by
   have := World.ownsRow_lit (base := 0) (e := 9) (size := 1) (w.drewN k) (ps.map Value.string).toArray ps.length (Nat.zero_le _) (by simp [maxLen]; omega) (by simp)
   rw [← hw1] at this
   exact SliceK.of_owns (e := 9) encS_len rfl (by rw [flat_encS]; simpa using this)
  clear hw1
  go_wp2_with fail
  refine (readNumbers_any 0 _ ps _ HPZ.out (by omega) HPS.out (G.out.below HB1.out)).mono ?_
  rintro e w2 ⟨v, rfl, hb2, ho2⟩
  have HB2 := Lib.hid (HB1.out.trans (hb2.mono HB1.out.size))
  have HO2 := Lib.hid ho2
  clear hb2 ho2
  cases hok : decsOk ps
  ·have HF : Hid (readOk s.data.toList = false) := by unfold Hid; rw [HR0.out, hok]; simp
   clear hok
   go_wp2_with fail
   go_ret3
   exact ⟨.string ⟨#[]⟩, .slice none 0 0, by rw [HF.out]; rfl, HB2.out, fun h => by rw [HF.out] at h; cases h⟩
  ·have HNS : Hid (SliceK 1 encI 0 w2 v (decs ps)) := SliceK.of_owns (e := 2) encI_len rfl (by rw [flat_encI]; exact own_lower (HO2.out hok) (Nat.zero_le _))
   have hdl : (decs ps).length ≤ 1048577 := by simpa [decs] using hplen
   rw [hok] at HR0
   clear hok HO2
   go_wp2_with fail
   refine (labelOf_any v ⟨l1.toArray⟩ 0 (decs ps) _ hz1 (by omega) HNS.out (G.out.below HB2.out)).mono ?_
   rintro e w3 ⟨t, rfl, hb3, ht⟩
   have HB3 := Lib.hid (HB2.out.trans (hb3.mono HB2.out.size))
   have HT := Lib.hid ht
   clear hb3 ht
   change Hid (labB l1 (decs ps) = true → t.data.toList = labTxt l1 (decs ps)) at HT
   obtain ⟨b, hb⟩ : ∃ b, labB l1 (decs ps) = b := ⟨_, rfl⟩
   rw [show labB (⟨l1.toArray⟩ : ByteArray).data.toList (decs ps) = b from hb]
   cases b
   ·have HF : Hid (readOk s.data.toList = false) := by unfold Hid; rw [HR0.out, hb]; simp
    clear hb
    go_wp2_with fail
    go_ret3
    exact ⟨.string ⟨#[]⟩, .slice none 0 0, by rw [HF.out]; rfl, HB3.out, fun h => by rw [HF.out] at h; cases h⟩
   ·have htt : t.data.toList = labTxt l1 (decs ps) := HT.out hb
    by_cases heq : labTxt l1 (decs ps) = s.data.toList
    ·have HF : Hid (readOk s.data.toList = true) := by unfold Hid; rw [HR0.out, hb]; simp [heq]
     have hq : (t.toList == s.toList) = true := by rw [Lib.toList_data, Lib.toList_data, htt, heq]; simp
     clear hb htt heq
     go_wp2_with fail
     go_ret3
     exact ⟨_, _, by rw [HF.out]; rfl, HB3.out, fun _ => by rw [HNAME.out]; rfl⟩
    ·have HF : Hid (readOk s.data.toList = false) := by unfold Hid; rw [HR0.out, hb]; simp [heq]
     have hq : (t.toList == s.toList) = false := by rw [Lib.toList_data, Lib.toList_data, htt]; simpa using heq
     clear hb htt heq
     go_wp2_with fail
     go_ret3
     exact ⟨.string ⟨#[]⟩, .slice none 0 0, by rw [HF.out]; rfl, HB3.out, fun h => by rw [HF.out] at h; cases h⟩

theorem IsLabel_any (s : ByteArray) (w : World) (hs : s.size ≤ 1048576) (g : Glob w) : Calls Tryz.prog 54 #[.string s] w fun e w' => e = .returned (.bool (readOk s.data.toList)) ∧ Below w.heap.size w w' := by
 have G := Lib.hid g
 clear g
 go_enter Tryz.func54, Tryz.ntmps54
 go_wp2_with fail
 refine (readLabel_any _ _ hs G.out).mono ?_
 rintro e w' ⟨n, v, rfl, hb, -⟩
 have HB := Lib.hid hb
 clear hb
 go_wp2_with fail
 go_ret
 exact ⟨rfl, HB.out⟩

end Go.Proofs.YtaabkeejbhdenaaGreatDoor
