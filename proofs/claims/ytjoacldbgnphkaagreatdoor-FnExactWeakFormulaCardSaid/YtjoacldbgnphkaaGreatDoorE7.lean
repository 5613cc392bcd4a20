/-
  The reference's l17Targets, for all kinds of simulations.
  The closure of a matrix in place, pass by pass. Plain; no program in sight.
  Pairs of states as keys of a map.
  The library's slices.IndexFunc and slices.ContainsFunc at a slice of numbers, with a function that may lay blocks of its own.
  The program's visible at any label, weakly, weakWay.
  Partitions, plainly: numbers by first sight, and the refinement of the states of a deterministic system.
  Partitions by rounds, plainly, for any key of a state.
-/
import Derived.Test.YtjoacldbgnphkaaGreatDoorE3
import Derived.Test.YtjoacldbgnphkaaGreatDoorE6
import Derived.Maps.RangeRun
import Derived.Test.YtjoacldbgnphkaaGreatDoorProg
import Derived.DeepKeys4
import Derived.Test.YtjoacldbgnphkaaGreatDoorE1
import Derived.Deep.RegionHeld3
namespace Go.Proofs.YtjoacldbgnphkaaGreatDoor
open Go Go.RowKit


/-- A row of truths. -/
def rowT (N : Nat) (f : Int → Bool) : List Value := (List.range N).map fun (i : Nat) => Value.bool (f i)
theorem rowT_len (N : Nat) (f : Int → Bool) : (rowT N f).length = N := by simp [rowT]
theorem rowT_get {N : Nat} {f : Int → Bool} {i : Nat} (h : i < N) : (rowT N f)[i]? = some (.bool (f i)) := by simp [rowT, h]
theorem rowT_congr {N : Nat} {f g : Int → Bool} (h : ∀ i : Nat, i < N → f i = g i) : rowT N f = rowT N g := by
 unfold rowT
 exact List.map_congr_left fun i hi => by rw [h i (List.mem_range.1 hi)]
theorem rowT_set {N : Nat} {f g : Int → Bool} {m : Nat} {b : Bool} (_hm : m < N) (h : ∀ i : Nat, i < N → g i = if i = m then b else f i) : (rowT N f).set m (.bool b) = rowT N g := by
 apply List.ext_getElem (by simp [rowT])
 intro i h1 h2
 have hi : i < N := by rw [rowT_len] at h2; exact h2
 rw [List.getElem_set]
 by_cases e : m = i
 ·subst e
  rw [if_pos rfl]
  have := h m hi
  rw [if_pos rfl] at this
  simp [rowT, this]
 ·rw [if_neg e]
  have := h i hi
  rw [if_neg (fun e2 => e e2.symm)] at this
  simp [rowT, this]
/-- Truths in a block. -/
def BoolAt (w : World) (g N : Nat) (f : Int → Bool) : Prop := g < w.heap.size ∧ ∀ i : Nat, i < N → w.cell? ⟨g, i, none⟩ = some (.bool (f i))
theorem BoolAt.below {w w' : World} {g N : Nat} {f : Int → Bool} (h : BoolAt w g N f) (hb : Below w.heap.size w w') : BoolAt w' g N f := ⟨Nat.lt_of_lt_of_le h.1 hb.size, fun i hi => keeps hb h.1 (h.2 i hi)⟩
theorem cell_far {w : World} {p : Addr} {u : Value} {b o : Nat} (h : b ≠ p.block) : (w.setCell p u).cell? ⟨b, o, none⟩ = w.cell? ⟨b, o, none⟩ := World.cell?_setCell_far _ _ _ _ fun k => h k.symm
theorem BoolAt.far {w : World} {g N : Nat} {f : Int → Bool} (h : BoolAt w g N f) {p : Addr} {u : Value} (hne : g ≠ p.block) : BoolAt (w.setCell p u) g N f := ⟨by rw [World.size_setCell]; exact h.1, fun i hi => by rw [cell_far hne]; exact h.2 i hi⟩
noncomputable section
def closB (t : Lts) (q : Int) (x : Int) : Bool := @decide (clos t (fun y => y = q) x) (Classical.propDecidable _)
theorem closB_iff {t : Lts} {q x : Int} : closB t q x = true ↔ clos t (fun y => y = q) x := by
 unfold closB
 exact ⟨fun h => @of_decide_eq_true _ (Classical.propDecidable _) h, fun h => @decide_eq_true _ (Classical.propDecidable _) h⟩
end
theorem BoolAt.clos {w : World} {g N : Nat} {t : Lts} {q : Int} {good : List Bool} {base : Nat} (hl : good.length = N) (h : ∀ x, inL good x ↔ clos t (fun y => y = q) x) (ho : w.ownsRow base 4 1 (.slice (some ⟨g, 0, none⟩) N N) N (good.map Value.bool)) : BoolAt w g N (closB t q) := by
 refine ⟨(ho.lt g rfl).2, fun i hi => ?_⟩
 rw [cell_bool ho hi]
 congr 2
 rw [Bool.eq_iff_iff, closB_iff, ← h (i : Int)]
 unfold inL
 rw [Int.toNat_natCast]
 constructor
 ·intro e
  exact ⟨by omega, getD_some (by omega) e⟩
 ·rintro ⟨-, e⟩
  rw [List.getD_eq_getElem?_getD, e]
  rfl
/-- By the first n edges. -/
noncomputable def wkTo (t : Lts) (y : Int) (l : ByteArray) (n : Nat) (w : Int) : Bool := (t.edges.take n).any fun e => closB t y e.src && ((labAt t e).toList == l.toList) && closB t e.dst w
theorem wkTo_zero (t : Lts) (y : Int) (l : ByteArray) (w : Int) : wkTo t y l 0 w = false := by simp [wkTo]
theorem wkTo_succ {t : Lts} {y : Int} {l : ByteArray} {n : Nat} (h : n < t.edges.length) (w : Int) : wkTo t y l (n + 1) w = (wkTo t y l n w || (closB t y t.edges[n].src && ((labAt t t.edges[n]).toList == l.toList) && closB t t.edges[n].dst w)) := by
 unfold wkTo
 rw [List.take_succ_eq_append_getElem h, List.any_append]
 simp
theorem wkTo_all {t : Lts} {y : Int} {l : ByteArray} (hl : (l.toList == [116, 97, 117]) = false) (w : Int) : wkTo t y l t.edges.length w = tgtK 2 t y l w := by
 unfold tgtK wkTo
 rw [if_pos rfl, List.take_length, Bool.eq_iff_iff, wkB_iff, List.any_eq_true]
 have hne : l.toList ≠ tauB := fun e => by rw [e] at hl; simp [tauB] at hl
 unfold wkP
 constructor
 ·rintro ⟨e, he, hb⟩
  rw [Bool.and_eq_true, Bool.and_eq_true, closB_iff, closB_iff, beq_iff_eq] at hb
  exact .inr ⟨hne, e, he, hb.1.1, hb.1.2, hb.2⟩
 ·rintro (⟨h, -⟩ | ⟨-, e, he, h1, h2, h3⟩)
  ·exact absurd h hne
  ·exact ⟨e, he, by rw [Bool.and_eq_true, Bool.and_eq_true, closB_iff, closB_iff, beq_iff_eq]; exact ⟨⟨h1, h2⟩, h3⟩⟩
theorem tau_row {t : Lts} {y : Int} {l : ByteArray} (hl : (l.toList == [116, 97, 117]) = true) (w : Int) : closB t y w = tgtK 2 t y l w := by
 unfold tgtK
 rw [if_pos rfl, Bool.eq_iff_iff, wkB_iff, closB_iff]
 have he : l.toList = tauB := by rw [beq_iff_eq] at hl; exact hl
 unfold wkP
 constructor
 ·intro h; exact .inl ⟨he, h⟩
 ·rintro (⟨-, h⟩ | ⟨h, -⟩)
  ·exact h
  ·exact absurd he h

end Go.Proofs.YtjoacldbgnphkaaGreatDoor

namespace Go.Proofs.YtjoacldbgnphkaaGreatDoor
open Go Go.RowKit


abbrev Mat := Nat → Nat → Bool
def warS (f : Mat) (b : Nat) : Mat := fun x y => f x y || (f x b && f b y)
def war (f : Mat) : Nat → Mat
 | 0 => f
 | b + 1 => warS (war f b) b
/-- The rows below a have gone through b. -/
def warA (f : Mat) (b a : Nat) : Mat := fun x y => if x < a then warS f b x y else f x y
/-- In row a the entries below c have gone through b. -/
def warC (f : Mat) (b a c : Nat) : Mat := fun x y => if x < a then warS f b x y else if x = a ∧ y < c then f x y || f b y else f x y
def dgF (f : Mat) (k : Nat) : Mat := fun x y => f x y || (x == y && decide (x < k))

theorem warS_row (f : Mat) (b y : Nat) : warS f b b y = f b y := by
 unfold warS
 cases f b b <;> cases f b y <;> rfl
theorem warS_col (f : Mat) (b x : Nat) : warS f b x b = f x b := by
 unfold warS
 cases f x b <;> cases f b b <;> rfl
theorem warA_zero (f : Mat) (b : Nat) : warA f b 0 = f := by
 funext x y; unfold warA; rw [if_neg (by omega)]
theorem warA_read (f : Mat) (b a : Nat) : warA f b a a b = f a b := by unfold warA; rw [if_neg (by omega)]
theorem warA_skip {f : Mat} {b a : Nat} (h : f a b = false) : warA f b (a + 1) = warA f b a := by
 funext x y; unfold warA
 by_cases e : x = a
 ·subst e; rw [if_pos (by omega), if_neg (by omega)]; unfold warS; rw [h]; simp
 ·by_cases l : x < a
  ·rw [if_pos (by omega), if_pos l]
  ·rw [if_neg (by omega), if_neg l]
theorem warC_zero (f : Mat) (b a : Nat) : warC f b a 0 = warA f b a := by
 funext x y; unfold warC warA
 by_cases l : x < a
 ·rw [if_pos l, if_pos l]
 ·rw [if_neg l, if_neg l, if_neg (by omega)]
theorem warC_read (f : Mat) (b a c : Nat) : warC f b a c b c = f b c := by
 unfold warC
 by_cases l : b < a
 ·rw [if_pos l, warS_row]
 ·rw [if_neg l, if_neg (by omega)]
theorem warC_step {f : Mat} {b a c x y : Nat} : warC f b a (c + 1) x y = if x = a ∧ y = c then (warC f b a c a c || f b c) else warC f b a c x y := by
 unfold warC
 by_cases e : x = a
 ·subst e
  by_cases e2 : y = c
  ·subst e2
   simp
  ·by_cases l : y < c
   ·simp [e2, l, show y < c + 1 by omega]
   ·simp [e2, l, show ¬ y < c + 1 by omega]
 ·simp [e]
theorem warC_all {f : Mat} {b a N : Nat} (h : f a b = true) {x y : Nat} (hy : y < N) : warC f b a N x y = warA f b (a + 1) x y := by
 unfold warC warA
 by_cases l : x < a
 ·rw [if_pos l, if_pos (by omega)]
 ·by_cases e : x = a
  ·subst e
   rw [if_neg l, if_pos ⟨rfl, hy⟩, if_pos (by omega)]
   unfold warS; rw [h]; simp
  ·rw [if_neg l, if_neg (by omega), if_neg (by omega)]
theorem warA_all {f : Mat} {b N x y : Nat} (hx : x < N) : warA f b N x y = warS f b x y := by unfold warA; rw [if_pos hx]
theorem dgF_zero (f : Mat) : dgF f 0 = f := by
 funext x y; unfold dgF; simp
theorem dgF_step {f : Mat} {k x y : Nat} : dgF f (k + 1) x y = if x = k ∧ y = k then true else dgF f k x y := by
 unfold dgF
 by_cases e : x = k
 ·subst e
  by_cases e2 : y = x
  ·subst e2; simp
  ·have : ¬ x = y := fun h => e2 h.symm
   simp [e2, this]
 ·by_cases l : x < k
  ·simp [e, l, show x < k + 1 by omega]
  ·simp [e, l, show ¬ x < k + 1 by omega]

theorem war_mono {f : Mat} {x y : Nat} (h : f x y = true) : ∀ b, war f b x y = true
 | 0 => h
 | b + 1 => by
  have := war_mono h b
  show warS (war f b) b x y = true
  unfold warS
  rw [this]; rfl
theorem warS_iff {f : Mat} {b x y : Nat} : warS f b x y = true ↔ f x y = true ∨ (f x b = true ∧ f b y = true) := by
 unfold warS
 rw [Bool.or_eq_true, Bool.and_eq_true]
theorem war_trans {f : Mat} : ∀ {b x : Nat}, x < b → ∀ {a c : Nat}, war f b a x = true → war f b x c = true → war f b a c = true
 | b + 1, x, hx, a, c, h1, h2 => by
  have h1' : warS (war f b) b a x = true := h1
  have h2' : warS (war f b) b x c = true := h2
  show warS (war f b) b a c = true
  by_cases e : x = b
  ·subst e
   rw [warS_col] at h1'
   rw [warS_row] at h2'
   exact warS_iff.2 (.inr ⟨h1', h2'⟩)
  ·have hl : x < b := by omega
   rcases warS_iff.1 h1' with p | ⟨p1, p2⟩
   ·rcases warS_iff.1 h2' with q | ⟨q1, q2⟩
    ·exact warS_iff.2 (.inl (war_trans hl p q))
    ·exact warS_iff.2 (.inr ⟨war_trans hl p q1, q2⟩)
   ·rcases warS_iff.1 h2' with q | ⟨q1, q2⟩
    ·exact warS_iff.2 (.inr ⟨p1, war_trans hl p2 q⟩)
    ·exact warS_iff.2 (.inr ⟨p1, q2⟩)
theorem war_sound {f : Mat} {R : Nat → Nat → Prop} (ht : ∀ x y z, R x y → R y z → R x z) (hf : ∀ x y, f x y = true → R x y) : ∀ b x y, war f b x y = true → R x y
 | 0, x, y, h => hf x y h
 | b + 1, x, y, h => by
  rcases warS_iff.1 (show warS (war f b) b x y = true from h) with p | ⟨p1, p2⟩
  ·exact war_sound ht hf b x y p
  ·exact ht x b y (war_sound ht hf b _ _ p1) (war_sound ht hf b _ _ p2)

/-- A matrix row behind row. -/
def flatM (N : Nat) (f : Mat) : Int → Bool := fun i => f (i.toNat / N) (i.toNat % N)
theorem flatM_at {N : Nat} {f : Mat} {x y : Nat} (hy : y < N) : flatM N f ((x * N + y : Nat) : Int) = f x y := by
 unfold flatM
 rw [Int.toNat_natCast, Nat.add_comm, Nat.add_mul_mod_self_right, Nat.mod_eq_of_lt hy, Nat.add_mul_div_right _ _ (by omega), Nat.div_eq_of_lt hy, Nat.zero_add]
theorem flat_lt {N x y : Nat} (hx : x < N) (hy : y < N) : x * N + y < N * N := by
 have : (x + 1) * N ≤ N * N := Nat.mul_le_mul_right N hx
 rw [Nat.add_mul] at this
 omega
theorem rowM_congr {N : Nat} {f g : Mat} (h : ∀ x y, x < N → y < N → f x y = g x y) : rowT (N * N) (flatM N f) = rowT (N * N) (flatM N g) := rowT_congr fun i hi => by
 have hN : 0 < N := by
  rcases Nat.eq_zero_or_pos N with e | e
  ·subst e; simp at hi
  ·exact e
 unfold flatM
 rw [Int.toNat_natCast]
 exact h _ _ (Nat.div_lt_of_lt_mul hi) (Nat.mod_lt _ hN)
theorem rowM_set {N : Nat} {f g : Mat} {a c : Nat} {b : Bool} (ha : a < N) (hc : c < N) (h : ∀ x y, g x y = if x = a ∧ y = c then b else f x y) : (rowT (N * N) (flatM N f)).set (a * N + c) (.bool b) = rowT (N * N) (flatM N g) := by
 refine rowT_set (flat_lt ha hc) fun i hi => ?_
 have hN : 0 < N := by omega
 unfold flatM
 rw [Int.toNat_natCast, h]
 have e : (i / N = a ∧ i % N = c) ↔ i = a * N + c := by
  constructor
  ·rintro ⟨h1, h2⟩
   have := Nat.div_add_mod i N
   rw [h1, h2, Nat.mul_comm] at this
   omega
  ·rintro rfl
   refine ⟨?_, ?_⟩
   ·rw [Nat.add_comm, Nat.add_mul_div_right _ _ hN, Nat.div_eq_of_lt hc, Nat.zero_add]
   ·rw [Nat.add_comm, Nat.add_mul_mod_self_right, Nat.mod_eq_of_lt hc]
 by_cases h3 : i = a * N + c
 ·rw [if_pos (e.2 h3), if_pos h3]
 ·rw [if_neg (fun h4 => h3 (e.1 h4)), if_neg h3]
theorem rowM_get {N : Nat} {f : Mat} {a c : Nat} (ha : a < N) (hc : c < N) : (rowT (N * N) (flatM N f))[a * N + c]? = some (.bool (f a c)) := by
 rw [rowT_get (flat_lt ha hc), flatM_at hc]
theorem ownM_cell {w : World} {B G N NN : Nat} {f : Mat} {a c q : Nat} (hNN : NN = N * N) (hq : q = a * N + c) (h : w.ownsRow B 4 1 (.slice (some ⟨G, 0, none⟩) NN NN) NN (rowT NN (flatM N f))) (ha : a < N) (hc : c < N) : w.cell? ⟨G, q, none⟩ = some (.bool (f a c)) := by
 subst hNN hq
 rw [h.cellAt _ (by have := flat_lt ha hc; omega), rowM_get ha hc]
theorem ownM_set {w : World} {B G N NN : Nat} {f g : Mat} {a c q : Nat} {b : Bool} (hNN : NN = N * N) (hq : q = a * N + c) (h : w.ownsRow B 4 1 (.slice (some ⟨G, 0, none⟩) NN NN) NN (rowT NN (flatM N f))) (ha : a < N) (hc : c < N) (hg : ∀ x y, g x y = if x = a ∧ y = c then b else f x y) :
  (w.setCell ⟨G, q, none⟩ (.bool b)).ownsRow B 4 1 (.slice (some ⟨G, 0, none⟩) NN NN) NN (rowT NN (flatM N g)) := by
 subst hNN hq
 rw [← rowM_set ha hc hg]
 exact (h.stored _ _).1

/-- The first n internal edges. -/
def tauM (t : Lts) (n : Nat) : Mat := fun x y => (t.edges.take n).any fun e => e.lab == 0 && (e.src == (x : Int) && e.dst == (y : Int))
theorem tauM_zero (t : Lts) : tauM t 0 = fun _ _ => false := by funext x y; simp [tauM]
theorem tauM_miss {t : Lts} {n : Nat} (h : n < t.edges.length) (hl : ¬ t.edges[n].lab = 0) : tauM t (n + 1) = tauM t n := by
 funext x y
 unfold tauM
 rw [List.take_succ_eq_append_getElem h, List.any_append]
 have : (t.edges[n].lab == 0) = false := by rw [beq_eq_false_iff_ne]; exact hl
 simp [this]
theorem tauM_hit {t : Lts} {n a c : Nat} (h : n < t.edges.length) (hl : t.edges[n].lab = 0) (ha : t.edges[n].src = (a : Int)) (hc : t.edges[n].dst = (c : Int)) (x y : Nat) : tauM t (n + 1) x y = if x = a ∧ y = c then true else tauM t n x y := by
 unfold tauM
 rw [List.take_succ_eq_append_getElem h, List.any_append]
 simp only [List.any_cons, List.any_nil, Bool.or_false, hl, ha, hc]
 by_cases e : x = a ∧ y = c
 ·obtain ⟨rfl, rfl⟩ := e
  simp
 ·rw [if_neg e]
  have : (((a : Int) == (x : Int)) && ((c : Int) == (y : Int))) = false := by
   rw [Bool.and_eq_false_iff, beq_eq_false_iff_ne, beq_eq_false_iff_ne]
   by_cases e1 : x = a
   ·right; intro h4; exact e ⟨e1, by omega⟩
   ·left; intro h4; exact e1 (by omega)
  rw [this]
  simp
theorem TauStar.trans {t : Lts} {a b c : Int} (h : TauStar t a b) (k : TauStar t b c) : TauStar t a c := by
 induction k with
 | refl => exact h
 | step _ e he hl hs ih => exact ih.step e he hl hs
/-- The matrix at rest is the closure of the internal edges. -/
theorem still_at {t : Lts} {N x y : Nat} (hv : Valid t) (hN : (N : Int) = t.states) (hx : x < N) (_hy : y < N) : war (dgF (tauM t t.edges.length) N) N x y = closB t x y := by
 rw [Bool.eq_iff_iff, closB_iff]
 constructor
 ·intro h
  refine ⟨(x : Int), rfl, ?_⟩
  refine war_sound (R := fun x y => TauStar t (x : Int) (y : Int)) (fun _ _ _ h k => h.trans k) ?_ N x y h
  intro a c hac
  unfold dgF tauM at hac
  rw [List.take_length, Bool.or_eq_true, List.any_eq_true] at hac
  rcases hac with ⟨e, he, h2⟩ | h2
  ·rw [Bool.and_eq_true, Bool.and_eq_true, beq_iff_eq, beq_iff_eq, beq_iff_eq] at h2
   rw [← h2.2.2]
   exact TauStar.step .refl e he h2.1 h2.2.1
  ·rw [Bool.and_eq_true, beq_iff_eq] at h2
   rw [h2.1]
   exact .refl
 ·rintro ⟨a, rfl, hs⟩
  have key : ∀ z : Int, TauStar t x z → ∀ m : Nat, (m : Int) = z → war (dgF (tauM t t.edges.length) N) N x m = true := by
   intro z hz
   induction hz with
   | refl =>
    intro m hm
    obtain rfl : m = x := by omega
    refine war_mono ?_ N
    unfold dgF
    simp [hx]
   | step h e he hl hs ih =>
    intro m hm
    obtain ⟨i, hi, hie⟩ := List.mem_iff_getElem.1 he
    have hok := hv.edge i hi
    rw [hie] at hok
    have h0 := hok.s0
    have h1 := hok.s1
    obtain ⟨b, hb⟩ : ∃ b : Nat, (b : Int) = e.src := ⟨e.src.toNat, by omega⟩
    refine war_trans (x := b) (by omega) (ih b (by rw [hb, hs])) (war_mono ?_ N)
    unfold dgF tauM
    rw [List.take_length, Bool.or_eq_true, List.any_eq_true]
    exact .inl ⟨e, he, by rw [Bool.and_eq_true, Bool.and_eq_true, beq_iff_eq, beq_iff_eq, beq_iff_eq]; exact ⟨hl, hb.symm, hm.symm⟩⟩
  exact key (y : Int) hs y rfl

end Go.Proofs.YtjoacldbgnphkaaGreatDoor

namespace Go.Proofs.YtjoacldbgnphkaaGreatDoor
open Go Go.RowKit
open Go.Maps (Keyed)


def key2 (q : Int × Int) : Value := .agg #[.int .i64 q.1, .int .i64 q.2]
theorem key2_inj {a b : Int × Int} (h : key2 a = key2 b) : a = b := by
 obtain ⟨x, y⟩ := a
 obtain ⟨u, v⟩ := b
 simpa [key2] using h
theorem laidOut2 : laidOutB Tryz.prog = true := by kernel_rfl
theorem row2Ok : (104 : TypeId) < Tryz.prog.types.size := of_decide_eq_true (by kernel_rfl)
theorem wide2 : (match Tryz.prog.underlying 104 with | some (.array _ _) | some (.struct _) => true | _ => false) = true := by rw [Tryz.underlying104]
set_option maxRecDepth 100000 in
theorem law2 : WideMaps.KeyLaw Tryz.prog 104 := deep_law_laid laidOut2 (m := 2) (by omega) row2Ok (by kernel_rfl) wide2
theorem keyed2 : Keyed Tryz.prog 104 := Keyed.of_law law2
theorem cells2Ok : Tryz.prog.cellsOf 104 = 2 := by kernel_rfl
theorem cellsI2 : Tryz.prog.cellsOf 2 = 1 := by kernel_rfl
theorem keyType2 : Tryz.prog.keyType 104 = true := by kernel_rfl
theorem wf_small2 {n : Int} (h0 : 0 ≤ n) (h1 : n < 40) : (Lit.int .i64 n).wf = true := by
 have h2 : IntKind.i64.min = -9223372036854775808 := by decide
 have h3 : IntKind.i64.max = 9223372036854775807 := by decide
 show (decide (IntKind.i64.min ≤ n) && decide (n ≤ IntKind.i64.max)) = true
 rw [h2, h3, decide_eq_true (by omega), decide_eq_true (by omega)]
 rfl
/-- A pair of small numbers. -/
def Small2 (q : Int × Int) : Prop := (0 ≤ q.1 ∧ q.1 < 40) ∧ 0 ≤ q.2 ∧ q.2 < 40
set_option maxRecDepth 100000 in
theorem keyOf2 {q : Int × Int} (h : Small2 q) : ∃ l, keyOf Tryz.prog 104 (key2 q) = some l := by
 obtain ⟨⟨a0, a1⟩, b0, b1⟩ := h
 have wa := wf_small2 a0 a1
 have wb := wf_small2 b0 b1
 obtain ⟨m, hm⟩ : ∃ m, Tryz.prog.types.size = m + 1 := ⟨_, Nat.succ_pred_eq_of_pos (Nat.lt_of_le_of_lt (Nat.zero_le _) row2Ok) |>.symm⟩
 refine ⟨.string (keyBytes [.int .i64 q.1, .int .i64 q.2]), ?_⟩
 unfold keyOf key2
 simp only [Tryz.underlying104]
 rw [if_pos (by simp [keyType2, Value.formed, Tryz.underlying104, cells2Ok]), hm]
 unfold Program.keyLits
 simp only [Tryz.underlying104, Value.cells]
 rw [if_pos (by rw [cells2Ok]; rfl), show List.range 2 = [0, 1] from rfl, List.mapM_cons, List.mapM_cons, List.mapM_nil]
 simp [cellsI2, Program.keyLits, Tryz.underlying2, wa, wb]

theorem mem_key2 {ps : List (Int × Int)} {q : Int × Int} : key2 q ∈ ps.map key2 ↔ q ∈ ps := by
 constructor
 ·intro h
  obtain ⟨r, hr, e⟩ := List.mem_map.1 h
  rw [← key2_inj e]
  exact hr
 ·exact fun h => List.mem_map.2 ⟨q, h, rfl⟩
end Go.Proofs.YtjoacldbgnphkaaGreatDoor

namespace Go.Proofs.YtjoacldbgnphkaaGreatDoor
open Go Go.RowKit

def idxI (P : Int → Bool) (xs : List Int) : Int := if xs.findIdx P < xs.length then (xs.findIdx P : Nat) else -1
theorem idxI_neg {P : Int → Bool} {xs : List Int} : idxI P xs = -1 ↔ ∀ x ∈ xs, P x = false := by
 unfold idxI
 by_cases h : xs.findIdx P < xs.length
 ·rw [if_pos h]
  refine ⟨fun e => by omega, fun h2 => ?_⟩
  obtain ⟨x, hx, hp⟩ := List.findIdx_lt_length.1 h
  rw [h2 x hx] at hp
  cases hp
 ·rw [if_neg h]
  refine ⟨fun _ x hx => ?_, fun _ => rfl⟩
  cases hp : P x
  ·rfl
  ·exact absurd (List.findIdx_lt_length.2 ⟨x, hx, hp⟩) h
theorem idxI_any {P : Int → Bool} {xs : List Int} : decide (0 ≤ idxI P xs) = xs.any P := by
 unfold idxI
 by_cases h : xs.findIdx P < xs.length
 ·rw [if_pos h]
  obtain ⟨x, hx, hp⟩ := List.findIdx_lt_length.1 h
  rw [List.any_eq_true.2 ⟨x, hx, hp⟩]
  simp
 ·rw [if_neg h]
  have : xs.any P = false := by
   rw [List.any_eq_false]
   intro x hx hp
   exact h (List.findIdx_lt_length.2 ⟨x, hx, hp⟩)
  rw [this]
  rfl
/-- A function of one element that answers P, and turns nothing that was there. -/
def AskI (fid : Nat) (caps : Array Value) (P : Int → Bool) (xs : List Int) (B : Nat) (w : World) : Prop :=
 ∀ w', Below B w w' → ∀ x ∈ xs, Calls Tryz.prog fid (#[.int .i64 x] ++ caps) w' fun e w'' => e = .returned (.bool (P x)) ∧ Below w'.heap.size w' w''

set_option maxRecDepth 100000 in
set_option maxHeartbeats 1000000 in
theorem IndexFuncI (lo : Nat) (v : Value) (xs : List Int) (fid : Nat) (caps : Array Value) (P : Int → Bool) (w : World) (hv : SliceK 1 encI lo w v xs) (eg : ∀ args w, (callFunc fid args).run Tryz.prog w = .ok (.enter fid args) w) (hP : AskI fid caps P xs w.heap.size w) :
  Calls Tryz.prog 65 #[v, .func (.func fid) #[] caps] w fun e w' => e = .returned (.int .i64 (idxI P xs)) ∧ Below w.heap.size w w' := by
 obtain ⟨a, c, rfl, hcn, hcc, hrow⟩ := hv
 have HR := Lib.hid hrow
 have HP := Lib.hid hP
 clear hP hrow
 go_enter Tryz.func65, Tryz.ntmps65
 go_wp2_with fail
 go_loopw [8] (fun i wr => ∃ k : Nat, k ≤ xs.length ∧ i = .int .i64 k ∧ Below w.heap.size w wr ∧ ∀ j (h : j < xs.length), j < k → P xs[j] = false) (fun i _ => xs.length - (intOf i).toNat)
 case atStart => exact ⟨0, Nat.zero_le _, rfl, Below.refl _ _, fun _ _ h => by omega⟩
 case round =>
  obtain ⟨k, hk, rfl, hbl, ha⟩ := hrel
  have HA := Lib.hid ha
  have HBL := Lib.hid hbl
  clear ha
  by_cases hlt : k < xs.length
  ·obtain ⟨b1, o1, rfl, -, hbs, c1⟩ := (HR.out.below hbl).one hlt
   simp only [encI, List.getElem?_cons_zero] at c1
   clear hbl
   obtain ⟨x, hx⟩ : ∃ x, x = xs[k] := ⟨_, rfl⟩
   rw [← hx] at c1
   have HX := Lib.hid hx
   have HC := Lib.hid (HP.out wr HBL.out x (by rw [hx]; exact List.getElem_mem _))
   obtain ⟨b, hb⟩ : ∃ b, b = P x := ⟨_, rfl⟩
   rw [← hb] at HC
   have HB := Lib.hid hb
   clear hb hx
   go_wp2_with fail
   refine Calls.mono HC.out ?_
   rintro e w1 ⟨rfl, hb1⟩
   have HB1 := Lib.hid (HBL.out.trans (hb1.mono HBL.out.size))
   clear hb1 c1
   cases b
   ·go_wp2_with fail
    go_roundw
    case rel => exact ⟨k + 1, by omega, by go_num, HB1.out, fun j h hj => by
     by_cases e : j = k
     ·subst e; rw [← HX.out]; exact HB.out.symm
     ·exact HA.out j h (by omega)⟩
    case measure => simp [intOf]; omega
   ·have HI : Hid (idxI P xs = (k : Int)) := by
     unfold Hid idxI
     have h1 : xs.findIdx P = k := by
      rw [List.findIdx_eq hlt]
      exact ⟨by rw [← HX.out]; exact HB.out.symm, fun j hj => HA.out j (by omega) hj⟩
     rw [h1, if_pos hlt]
    go_wp2_with fail
    go_ret
    exact ⟨ret_int HI.out.symm, HB1.out⟩
  ·clear hbl
   have HI : Hid (idxI P xs = -1) := by
    unfold Hid
    rw [idxI_neg]
    intro x hx
    obtain ⟨j, hj, rfl⟩ := List.mem_iff_getElem.1 hx
    exact HA.out j hj (by omega)
   go_wp2_with fail
   go_ret
   exact ⟨ret_int HI.out.symm, HBL.out⟩

theorem ContainsFuncI (lo : Nat) (v : Value) (xs : List Int) (fid : Nat) (caps : Array Value) (P : Int → Bool) (w : World) (hv : SliceK 1 encI lo w v xs) (eg : ∀ args w, (callFunc fid args).run Tryz.prog w = .ok (.enter fid args) w) (hP : AskI fid caps P xs w.heap.size w) :
  Calls Tryz.prog 43 #[v, .func (.func fid) #[] caps] w fun e w' => e = .returned (.bool (xs.any P)) ∧ Below w.heap.size w w' := by
 have HC := Lib.hid (IndexFuncI lo v xs fid caps P w hv eg hP)
 clear hP
 go_enter Tryz.func43, Tryz.ntmps43
 go_wp2_with fail
 refine Calls.mono HC.out ?_
 rintro e w' ⟨rfl, hb⟩
 have HB := Lib.hid hb
 clear hb
 go_wp2_with fail
 go_ret
 exact ⟨ret_bool idxI_any, HB.out⟩

end Go.Proofs.YtjoacldbgnphkaaGreatDoor

namespace Go.Proofs.YtjoacldbgnphkaaGreatDoor
open Go Go.RowKit


theorem followL_in {b : Lts} (hv : Valid b) {cur : List Int} {l : ByteArray} : ∀ x ∈ followL b cur l, 0 ≤ x ∧ x < b.states := by
 intro x hx
 have hm := ((sort_compact_is (followR b cur l)).mem x).1 hx
 obtain ⟨e, he, -, -, rfl⟩ := mem_followR.1 hm
 obtain ⟨i, hi, rfl⟩ := List.mem_iff_getElem.1 he
 exact ⟨(hv.edge i hi).d0, (hv.edge i hi).d1⟩
theorem followL_nodup (b : Lts) (cur : List Int) (l : ByteArray) : (followL b cur l).Nodup := by
 rw [List.nodup_iff_pairwise_ne]
 exact (sort_compact_is (followR b cur l)).asc.imp fun h => by omega
noncomputable section
def nearL (b : Lts) (y : Int) : List Int := setL b.states (clos b fun x => x ∈ [y])
def visL (b : Lts) (cur : List Int) (l : ByteArray) : List Int := setL b.states (clos b fun x => x ∈ followL b cur l)
def wkL (b : Lts) (y : Int) (l : ByteArray) : List Int := if (l.toList == [116, 97, 117]) = true then nearL b y else visL b (nearL b y) l
end
theorem nearL_mem {b : Lts} (hv : Valid b) {y : Int} (hy : 0 ≤ y ∧ y < b.states) (w : Int) : w ∈ nearL b y ↔ clos b (fun x => x = y) w := by
 unfold nearL
 rw [(setL_is (clos.inside hv fun x hx => by rw [List.mem_singleton] at hx; subst hx; exact hy)).mem]
 have e : (fun x => x ∈ [y]) = fun x => x = y := by funext x; simp
 rw [e]
theorem clos_union {b : Lts} {Q : Int → Prop} {w : Int} (h : clos b Q w) : ∃ x, Q x ∧ clos b (fun z => z = x) w := by
 obtain ⟨a, ha, hs⟩ := h
 exact ⟨a, ha, a, rfl, hs⟩
theorem wkL_mem {b : Lts} (hv : Valid b) {y : Int} (hy : 0 ≤ y ∧ y < b.states) (l : ByteArray) (w : Int) : w ∈ wkL b y l ↔ tgtK 2 b y l w = true ∧ 0 ≤ w ∧ w < b.states := by
 have hin : wkP b y l w → 0 ≤ w ∧ w < b.states := wkP_in hv hy
 unfold tgtK
 rw [if_pos rfl, wkB_iff]
 have hk : w ∈ wkL b y l ↔ wkP b y l w := by
  unfold wkL wkP
  by_cases ht : (l.toList == [116, 97, 117]) = true
  ·have he : l.toList = tauB := by rw [beq_iff_eq] at ht; exact ht
   rw [if_pos ht, nearL_mem hv hy]
   constructor
   ·intro h; exact .inl ⟨he, h⟩
   ·rintro (⟨-, h⟩ | ⟨h, -⟩)
    ·exact h
    ·exact absurd he h
  ·have he : l.toList ≠ tauB := fun e => ht (by rw [e]; rfl)
   rw [if_neg ht]
   unfold visL
   rw [(setL_is (clos.inside hv fun x hx => followL_in hv x hx)).mem]
   constructor
   ·intro h
    obtain ⟨x, hx, hc⟩ := clos_union h
    have hm := ((sort_compact_is (followR b (nearL b y) l)).mem x).1 hx
    obtain ⟨e, hem, h1, h2, rfl⟩ := mem_followR.1 hm
    exact .inr ⟨he, e, hem, (nearL_mem hv hy _).1 h1, h2, hc⟩
   ·rintro (⟨h, -⟩ | ⟨-, e, hem, h1, h2, h3⟩)
    ·exact absurd h he
    ·obtain ⟨a0, ha0, hs⟩ := h3
     subst ha0
     refine ⟨e.dst, ?_, hs⟩
     exact ((sort_compact_is (followR b (nearL b y) l)).mem _).2 (mem_followR.2 ⟨e, hem, (nearL_mem hv hy _).2 h1, h2, rfl⟩)
 rw [hk]
 exact ⟨fun h => ⟨h, hin h⟩, fun h => h.1⟩

set_option maxRecDepth 100000 in
set_option maxHeartbeats 2000000 in
theorem visibleL_any (lo lo2 : Nat) (t : Lts) (lv ev sv : Value) (cur : List Int) (l : ByteArray) (w : World) (hv : Valid t) (hl : SliceK 1 encS lo w lv t.labels) (he : SliceK 3 encE lo w ev t.edges) (hs : SliceK 1 encI lo2 w sv cur) :
  Calls Tryz.prog 98 #[.agg #[.int .i64 t.states, .int .i64 t.initial, lv, ev], sv, .string l] w (MadeNums (visL t cur l) w) := by
 have HV := Lib.hid hv
 have HL := Lib.hid hl
 have HE := Lib.hid he
 have HS := Lib.hid hs
 have HIN : Hid (∀ x ∈ followL t cur l, 0 ≤ x ∧ x < t.states) := followL_in hv
 have HND : Hid (followL t cur l).Nodup := followL_nodup t cur l
 have HN : Hid (setL t.states (clos t fun y => y ∈ followL t cur l) = visL t cur l) := rfl
 obtain ⟨wB, hwB⟩ : ∃ wB, wB = w.alloc (.cells #[.int .i64 t.states, .int .i64 t.initial, lv, ev] 32) := ⟨_, rfl⟩
 have hb0 : Below w.heap.size w wB := by rw [hwB]; exact (Below.refl _ _).alloc (Nat.le_refl _) _
 have hx0 : Blk wB w.heap.size [.int .i64 t.states, .int .i64 t.initial, lv, ev] 32 := by rw [hwB]; exact Blk.new w _ _
 have HB0 := Lib.hid hb0
 have HWB := Lib.hid hwB
 obtain ⟨bx, hbx⟩ : ∃ bx, bx = w.heap.size := ⟨_, rfl⟩
 rw [← hbx] at hx0
 have HBX := Lib.hid hbx
 have hbw := hx0.lt
 have hD : Below wB.heap.size wB wB.drew := (Below.refl _ _).drew
 have HD := Lib.hid hD
 have W0 := keeps hD hbw (hx0.cell 0 rfl)
 have W1 := keeps hD hbw (hx0.cell 1 rfl)
 have W2 := keeps hD hbw (hx0.cell 2 rfl)
 have W3 := keeps hD hbw (hx0.cell 3 rfl)
 have V0 := hx0.cell 0 rfl
 have V1 := hx0.cell 1 rfl
 have V2 := hx0.cell 2 rfl
 have V3 := hx0.cell 3 rfl
 have hb1 : Below w.heap.size w wB.drew := hb0.trans (hD.mono hb0.size)
 have HF := Lib.hid (follow_any lo lo2 t lv ev sv cur l wB.drew hv (hl.below hb1) (he.below hb1) (hs.below hb1))
 have HB1 := Lib.hid hb1
 clear hv hl he hs hb0 hx0 hwB hbx hD hb1
 go_enter Tryz.func98, Tryz.ntmps98
 go_wp2
 rw [← HWB.out, ← HBX.out]
 go_region_held3 (fun w' => w'.cell? ⟨bx, 0, none⟩ = some (.int .i64 t.states) ∧ w'.cell? ⟨bx, 1, none⟩ = some (.int .i64 t.initial) ∧ w'.cell? ⟨bx, 2, none⟩ = some lv ∧ w'.cell? ⟨bx, 3, none⟩ = some ev)
  (first
   | (refine ⟨?_, ?_, ?_, ?_⟩ <;> assumption)
   | go_keep)
  (first
   | (go_at_call 74; refine Calls.mono HF.out ?_; rintro e w9 ⟨v9, rfl, hb9, ho9⟩; have k0 := keeps hb9 (by simp; omega) W0; have k1 := keeps hb9 (by simp; omega) W1; have k2 := keeps hb9 (by simp; omega) W2; have k3 := keeps hb9 (by simp; omega) W3)
   | (go_at_call 97; refine Calls.mono (internal_any lo wB.drew.heap.size t lv ev v9 (followL t cur l) w9 HV.out (HL.out.below (HB1.out.trans (hb9.mono HB1.out.size))) (HE.out.below (HB1.out.trans (hb9.mono HB1.out.size))) (SliceK.of_owns (enc := encI) encI_len rfl (by rw [flat_encI]; exact ho9)) HIN.out HND.out) ?_; rintro e w8 ⟨v8, rfl, hb8, ho8⟩; have k4 := keeps hb8 (by have := hb9.size; simp at this; omega) k0; have k5 := keeps hb8 (by have := hb9.size; simp at this; omega) k1; have k6 := keeps hb8 (by have := hb9.size; simp at this; omega) k2; have k7 := keeps hb8 (by have := hb9.size; simp at this; omega) k3))
 rw [HN.out] at ho8
 have hz := hb9.size
 have hz2 := HB1.out.size
 have HBF := Lib.hid (HB1.out.trans ((hb9.trans (hb8.mono hz)).mono hz2))
 have HOF := Lib.hid (own_lower ho8 (Nat.le_trans hz2 hz))
 clear hb8 hb9 ho8 ho9 k0 k1 k2 k3 k4 k5 k6 k7 W0 W1 W2 W3 V0 V1 V2 V3
 go_wp2
 go_ret
 exact ⟨_, rfl, HBF.out, HOF.out⟩


set_option maxRecDepth 100000 in
set_option maxHeartbeats 1000000 in
theorem weakly_any (lo : Nat) (b : Lts) (lb eb : Value) (y : Int) (l : ByteArray) (w : World) (hv : Valid b) (hy : 0 ≤ y ∧ y < b.states) (hl : SliceK 1 encS lo w lb b.labels) (he : SliceK 3 encE lo w eb b.edges) :
  Calls Tryz.prog 78 #[.agg #[.int .i64 b.states, .int .i64 b.initial, lb, eb], .int .i64 y, .string l] w (MadeNums (wkL b y l) w) := by
 obtain ⟨tb, htb⟩ : ∃ tb, tb = w.heap.size := ⟨_, rfl⟩
 obtain ⟨W, hW⟩ : ∃ W, W = (w.alloc (.cells #[.int .i64 b.states, .int .i64 b.initial, lb, eb] 32)).alloc (.cells #[.int .i64 y] 2) := ⟨_, rfl⟩
 have hb : Below w.heap.size w W := by rw [hW]; exact ((Below.refl _ _).alloc (Nat.le_refl _) _).alloc (by simp) _
 have hT : Blk W tb [.int .i64 b.states, .int .i64 b.initial, lb, eb] 32 := by rw [hW, htb]; exact (Blk.new w _ _).alloc _
 have hY : Blk W (tb + 1) [.int .i64 y] 2 := by
  have h := Blk.new (w.alloc (.cells #[.int .i64 b.states, .int .i64 b.initial, lb, eb] 32)) [.int .i64 y] 2
  rw [World.size_alloc, ← htb] at h
  rw [hW]
  exact h
 have hS : SliceK 1 encI 0 W (.slice (some ⟨tb + 1, 0, none⟩) 1 1) [y] := ⟨_, _, rfl, by simp, by simp, .inr ⟨tb + 1, 0, rfl, Nat.zero_le _, hY.lt, fun i hi j hj => by
  have hi0 : i = 0 := by simpa using hi
  have hj0 : j = 0 := by omega
  subst hi0; subst hj0
  exact hY.cell 0 rfl⟩⟩
 have HIN := Lib.hid (internal_any lo 0 b lb eb _ [y] W hv (hl.below hb) (he.below hb) hS (fun x hx => by rw [List.mem_singleton] at hx; subst hx; exact hy) (by simp))
 have HV := Lib.hid hv
 have HL := Lib.hid (hl.below hb)
 have HE := Lib.hid (he.below hb)
 have HB := Lib.hid hb
 have HT := Lib.hid hT
 have HW := Lib.hid hW
 have HTB := Lib.hid htb
 have hsW : w.heap.size ≤ W.heap.size := hb.size
 have t0 := hT.cell 0 rfl
 have t1 := hT.cell 1 rfl
 have t2 := hT.cell 2 rfl
 have t3 := hT.cell 3 rfl
 rw [hW, htb] at t0 t1 t2 t3
 have HNL : Hid (setL b.states (clos b fun x => x ∈ [y]) = nearL b y) := rfl
 rw [HNL.out] at HIN
 clear hv hy hl he hb hT hY hS hW htb HNL
 obtain ⟨ct, hct⟩ : ∃ ct, ct = (l.toList == [116, 97, 117]) := ⟨_, rfl⟩
 have htau : (l.toList == [116, 97, 117]) = ct := hct.symm
 have HCT := Lib.hid htau
 clear hct
 go_enter Tryz.func78, Tryz.ntmps78
 go_wp2_with fail
 rw [← HW.out]
 try rw [← HTB.out]
 refine Calls.mono HIN.out ?_
 rintro e w1 ⟨v1, rfl, hb1, ho1⟩
 have HB1 := Lib.hid (HB.out.trans (hb1.mono hsW))
 have hs1 : w.heap.size ≤ w1.heap.size := HB1.out.size
 have HO1 := Lib.hid ho1
 have HT1 := Lib.hid (HT.out.below hb1)
 have HV1 := Lib.hid (visibleL_any lo W.heap.size b lb eb v1 (nearL b y) l w1 HV.out (HL.out.below hb1) (HE.out.below hb1) (SliceK.of_owns (enc := encI) encI_len rfl (by rw [flat_encI]; exact ho1)))
 clear hb1 ho1 t0 t1 t2 t3 HIN
 have t0 := HT1.out.cell 0 rfl
 have t1 := HT1.out.cell 1 rfl
 have t2 := HT1.out.cell 2 rfl
 have t3 := HT1.out.cell 3 rfl
 cases ct
 ·have HWK : Hid (wkL b y l = visL b (nearL b y) l) := by unfold Hid wkL; rw [if_neg (by rw [HCT.out]; decide)]
  go_wp2_with fail
  refine Calls.mono HV1.out ?_
  rintro e w2 ⟨v2, rfl, hb2, ho2⟩
  have HB2 := Lib.hid (HB1.out.trans (hb2.mono hs1))
  have HO2 := Lib.hid (own_lower ho2 hs1)
  clear hb2 ho2 HV1
  go_wp2
  go_ret
  exact ⟨_, rfl, HB2.out, by rw [HWK.out]; exact HO2.out⟩
 ·have HWK : Hid (wkL b y l = nearL b y) := by unfold Hid wkL; rw [if_pos HCT.out]
  go_wp2
  go_ret
  exact ⟨_, rfl, HB1.out, by rw [HWK.out]; exact own_lower HO1.out hsW⟩

end Go.Proofs.YtjoacldbgnphkaaGreatDoor

namespace Go.Proofs.YtjoacldbgnphkaaGreatDoor
open Go Go.RowKit

/-- The first place of an item, or the length. -/
def fstIx {α : Type} [DecidableEq α] : List α → α → Nat
 | [], _ => 0
 | y :: l, x => if y = x then 0 else fstIx l x + 1
theorem fstIx_le {α : Type} [DecidableEq α] : ∀ (l : List α) (x : α), fstIx l x ≤ l.length
 | [], _ => Nat.le_refl _
 | y :: l, x => by
  unfold fstIx
  split
  ·exact Nat.zero_le _
  ·exact Nat.succ_le_succ (fstIx_le l x)
theorem fstIx_lt {α : Type} [DecidableEq α] : ∀ {l : List α} {x : α}, x ∈ l → fstIx l x < l.length
 | [], _, h => by cases h
 | y :: l, x, h => by
  unfold fstIx
  split
  ·exact Nat.succ_pos _
  ·next hn =>
   rcases List.mem_cons.1 h with e | e
   ·exact absurd e.symm hn
   ·exact Nat.succ_lt_succ (fstIx_lt e)
theorem fstIx_not {α : Type} [DecidableEq α] : ∀ {l : List α} {x : α}, x ∉ l → fstIx l x = l.length
 | [], _, _ => rfl
 | y :: l, x, h => by
  have h1 : ¬ y = x := fun e => h (by rw [e]; exact List.mem_cons_self ..)
  unfold fstIx
  rw [if_neg h1, fstIx_not fun k => h (List.mem_cons_of_mem _ k)]
  rfl
theorem fstIx_get {α : Type} [DecidableEq α] : ∀ {l : List α} {x : α}, x ∈ l → l[fstIx l x]? = some x
 | [], _, h => by cases h
 | y :: l, x, h => by
  unfold fstIx
  by_cases e : y = x
  ·rw [if_pos e, e]; rfl
  ·rw [if_neg e]
   rcases List.mem_cons.1 h with k | k
   ·exact absurd k.symm e
   ·exact fstIx_get k
theorem fstIx_first {α : Type} [DecidableEq α] : ∀ {l : List α} {x : α} {j : Nat}, j < fstIx l x → l[j]? ≠ some x
 | [], _, j, h => by simp
 | y :: l, x, j, h => by
  unfold fstIx at h
  by_cases e : y = x
  ·rw [if_pos e] at h; cases h
  ·rw [if_neg e] at h
   cases j with
   | zero => simpa using e
   | succ j => exact fstIx_first (l := l) (Nat.lt_of_succ_lt_succ h)
theorem fstIx_eq {α : Type} [DecidableEq α] {l : List α} {x : α} {i : Nat} (h : l[i]? = some x) (hf : ∀ j, j < i → l[j]? ≠ some x) : fstIx l x = i := by
 have h1 := fstIx_get (List.mem_of_getElem? h)
 rcases Nat.lt_trichotomy (fstIx l x) i with k | k | k
 ·exact absurd h1 (hf _ k)
 ·exact k
 ·exact absurd h (fstIx_first k)
theorem fstIx_append {α : Type} [DecidableEq α] {l m : List α} {x : α} (h : x ∈ l) : fstIx (l ++ m) x = fstIx l x := by
 have h1 := fstIx_lt h
 refine fstIx_eq ?_ fun j hj => ?_
 ·rw [List.getElem?_append_left h1]; exact fstIx_get h
 ·rw [List.getElem?_append_left (by omega)]; exact fstIx_first hj
theorem fstIx_inj {α : Type} [DecidableEq α] {l : List α} {x y : α} (hx : x ∈ l) (hy : y ∈ l) (h : fstIx l x = fstIx l y) : x = y := by
 have h1 := fstIx_get hx
 rw [h, fstIx_get hy] at h1
 exact (Option.some.inj h1).symm

/-- The first places of the items. -/
def firstIx {α : Type} [DecidableEq α] (l : List α) : List Int := l.map fun x => (fstIx l x : Int)
theorem firstIx_len {α : Type} [DecidableEq α] (l : List α) : (firstIx l).length = l.length := by simp [firstIx]
theorem firstIx_at {α : Type} [DecidableEq α] {l : List α} {i : Nat} (h : i < l.length) : (firstIx l)[i]? = some (fstIx l l[i] : Int) := by
 unfold firstIx; rw [List.getElem?_map, List.getElem?_eq_getElem h]; rfl
theorem firstIx_same {α β : Type} [DecidableEq α] [DecidableEq β] {l : List α} {m : List β} (hn : l.length = m.length) (h : ∀ i j (hi : i < l.length) (hj : j < l.length), l[i] = l[j] ↔ m[i]'(by omega) = m[j]'(by omega)) : firstIx l = firstIx m := by
 refine List.ext_getElem? fun i => ?_
 by_cases hi : i < l.length
 ·rw [firstIx_at hi, firstIx_at (show i < m.length by omega)]
  have h1 := fstIx_get (List.getElem_mem hi)
  have hlt := fstIx_lt (List.getElem_mem hi)
  have e : fstIx m (m[i]'(by omega)) = fstIx l l[i] := by
   refine fstIx_eq ?_ fun j hj hk => ?_
   ·rw [List.getElem?_eq_getElem (show fstIx l l[i] < m.length by omega)]
    rw [List.getElem?_eq_getElem hlt] at h1
    exact congrArg some ((h _ _ hlt hi).1 (Option.some.inj h1))
   ·have hj2 : j < l.length := by omega
    rw [List.getElem?_eq_getElem (show j < m.length by omega)] at hk
    have := (h _ _ hj2 hi).2 (Option.some.inj hk)
    exact fstIx_first hj (by rw [List.getElem?_eq_getElem hj2, this])
  rw [e]
 ·rw [List.getElem?_eq_none (by rw [firstIx_len]; omega), List.getElem?_eq_none (by rw [firstIx_len]; omega)]

/-- The items in the order of their first sight. -/
def addNew (acc : List Int) (x : Int) : List Int := if x ∈ acc then acc else acc ++ [x]
def firsts (l : List Int) : List Int := l.foldl addNew []
theorem firsts_snoc (l : List Int) (x : Int) : firsts (l ++ [x]) = addNew (firsts l) x := by unfold firsts; rw [List.foldl_append]; rfl
theorem fold_grows : ∀ (m acc : List Int), ∃ t, m.foldl addNew acc = acc ++ t
 | [], acc => ⟨[], by simp⟩
 | x :: m, acc => by
  obtain ⟨t, ht⟩ := fold_grows m (addNew acc x)
  have : ∃ s, addNew acc x = acc ++ s := by
   unfold addNew
   by_cases h : x ∈ acc
   ·rw [if_pos h]; exact ⟨[], by simp⟩
   ·rw [if_neg h]; exact ⟨[x], rfl⟩
  obtain ⟨s, hs⟩ := this
  refine ⟨s ++ t, ?_⟩
  rw [List.foldl_cons, ht, hs, List.append_assoc]
theorem firsts_append (l m : List Int) : ∃ t, firsts (l ++ m) = firsts l ++ t := by
 unfold firsts; rw [List.foldl_append]; exact fold_grows m _
theorem firsts_mem : ∀ (l : List Int) (x : Int), x ∈ firsts l ↔ x ∈ l := by
 have h : ∀ (m acc : List Int) (x : Int), x ∈ m.foldl addNew acc ↔ x ∈ acc ∨ x ∈ m := by
  intro m
  induction m with
  | nil => intro acc x; simp
  | cons y m ih =>
   intro acc x
   rw [List.foldl_cons, ih]
   have : x ∈ addNew acc y ↔ x ∈ acc ∨ x = y := by
    unfold addNew
    by_cases h : y ∈ acc
    ·rw [if_pos h]
     exact ⟨.inl, fun k => k.elim id fun e => e ▸ h⟩
    ·rw [if_neg h, List.mem_append, List.mem_singleton]
   rw [this, List.mem_cons, or_assoc]
 intro l x
 unfold firsts
 rw [h]
 simp
theorem firsts_len : ∀ (l : List Int), (firsts l).length ≤ l.length := by
 have h : ∀ (m acc : List Int), (m.foldl addNew acc).length ≤ acc.length + m.length := by
  intro m
  induction m with
  | nil => intro acc; simp
  | cons y m ih =>
   intro acc
   rw [List.foldl_cons]
   refine Nat.le_trans (ih _) ?_
   have : (addNew acc y).length ≤ acc.length + 1 := by
    unfold addNew
    by_cases h : y ∈ acc
    ·rw [if_pos h]; omega
    ·rw [if_neg h]; simp
   rw [List.length_cons]; omega
 intro l
 have := h l []
 unfold firsts
 simpa using this
/-- Numbers by first sight. -/
def normL (l : List Int) : List Int := l.map fun x => (fstIx (firsts l) x : Int)
theorem normL_len (l : List Int) : (normL l).length = l.length := by simp [normL]
theorem normL_get {l : List Int} {i : Nat} (h : i < l.length) : (normL l)[i]? = some (fstIx (firsts l) l[i] : Int) := by
 unfold normL; rw [List.getElem?_map, List.getElem?_eq_getElem h]; rfl
theorem normL_at {l : List Int} {i : Nat} (h : i < l.length) : (normL l)[i]? = some (fstIx (firsts (l.take i)) l[i] : Int) := by
 rw [normL_get h]
 have e : l = (l.take i ++ [l[i]]) ++ l.drop (i + 1) := by
  rw [List.append_assoc, List.singleton_append, ← List.drop_eq_getElem_cons h, List.take_append_drop]
 obtain ⟨t, ht⟩ := firsts_append (l.take i ++ [l[i]]) (l.drop (i + 1))
 rw [← e] at ht
 have hm : l[i] ∈ firsts (l.take i ++ [l[i]]) := (firsts_mem _ _).2 (List.mem_append.2 (.inr (List.mem_singleton.2 rfl)))
 rw [ht, fstIx_append hm, firsts_snoc]
 unfold addNew
 by_cases hx : l[i] ∈ firsts (l.take i)
 ·rw [if_pos hx]
 ·rw [if_neg hx, fstIx_not hx]
  congr 2
  refine fstIx_eq ?_ fun j hj hk => ?_
  ·simp
  ·rw [List.getElem?_append_left hj] at hk
   exact hx (List.mem_of_getElem? hk)
theorem normL_range {l : List Int} {x : Int} (h : x ∈ normL l) : 0 ≤ x ∧ x < (l.length : Int) := by
 obtain ⟨y, hy, rfl⟩ := List.mem_map.1 h
 have h1 := fstIx_lt ((firsts_mem l y).2 hy)
 have h2 := firsts_len l
 omega
theorem normL_same {l : List Int} {i j : Nat} (hi : i < l.length) (hj : j < l.length) : (normL l)[i]'(by rw [normL_len]; exact hi) = (normL l)[j]'(by rw [normL_len]; exact hj) ↔ l[i] = l[j] := by
 have h1 := normL_get hi
 have h2 := normL_get hj
 rw [List.getElem?_eq_getElem (by rw [normL_len]; exact hi)] at h1
 rw [List.getElem?_eq_getElem (by rw [normL_len]; exact hj)] at h2
 rw [Option.some.inj h1, Option.some.inj h2]
 constructor
 ·intro h
  exact fstIx_inj ((firsts_mem _ _).2 (List.getElem_mem hi)) ((firsts_mem _ _).2 (List.getElem_mem hj)) (by omega)
 ·intro h; rw [h]
theorem firstIx_pat {α : Type} [DecidableEq α] {l : List α} {i j : Nat} (hi : i < l.length) (hj : j < l.length) : (firstIx l)[i]'(by rw [firstIx_len]; exact hi) = (firstIx l)[j]'(by rw [firstIx_len]; exact hj) ↔ l[i] = l[j] := by
 have h1 := firstIx_at hi
 have h2 := firstIx_at hj
 rw [List.getElem?_eq_getElem (by rw [firstIx_len]; exact hi)] at h1
 rw [List.getElem?_eq_getElem (by rw [firstIx_len]; exact hj)] at h2
 rw [Option.some.inj h1, Option.some.inj h2]
 constructor
 ·intro h
  exact fstIx_inj (List.getElem_mem hi) (List.getElem_mem hj) (by omega)
 ·intro h; rw [h]
/-- The blocks of equal items. -/
def blocksL {α : Type} [DecidableEq α] (l : List α) : List Int := normL (firstIx l)
theorem blocksL_len {α : Type} [DecidableEq α] (l : List α) : (blocksL l).length = l.length := by unfold blocksL; rw [normL_len, firstIx_len]
theorem blocksL_pat {α : Type} [DecidableEq α] {l : List α} {i j : Nat} (hi : i < l.length) (hj : j < l.length) : (blocksL l)[i]'(by rw [blocksL_len]; exact hi) = (blocksL l)[j]'(by rw [blocksL_len]; exact hj) ↔ l[i] = l[j] := by
 unfold blocksL
 rw [normL_same (by rw [firstIx_len]; exact hi) (by rw [firstIx_len]; exact hj), firstIx_pat hi hj]
theorem blocksL_same {α β : Type} [DecidableEq α] [DecidableEq β] {l : List α} {m : List β} (hn : l.length = m.length) (h : ∀ i j (hi : i < l.length) (hj : j < l.length), l[i] = l[j] ↔ m[i]'(by omega) = m[j]'(by omega)) : blocksL l = blocksL m := by
 unfold blocksL; rw [firstIx_same hn h]
theorem blocksL_range {α : Type} [DecidableEq α] {l : List α} {x : Int} (h : x ∈ blocksL l) : 0 ≤ x ∧ x < (l.length : Int) := by
 have := normL_range h
 rwa [firstIx_len] at this
theorem normL_zeros (n : Nat) : normL (List.replicate n (0 : Int)) = List.replicate n 0 := by
 refine List.ext_getElem? fun i => ?_
 by_cases hi : i < n
 ·rw [normL_at (by simpa using hi)]
  rw [List.getElem?_replicate, if_pos hi]
  congr 1
  have : ∀ m : List Int, (∀ x ∈ m, x = 0) → fstIx (firsts m) 0 = 0 := fun m hm => by
   cases h : firsts m with
   | nil => rfl
   | cons y t =>
    have : y = 0 := hm y ((firsts_mem m y).1 (by rw [h]; exact List.mem_cons_self ..))
    unfold fstIx
    rw [if_pos this]
  rw [List.getElem_replicate, this]
  ·rfl
  ·intro x hx
   exact (List.mem_replicate.1 (List.mem_of_mem_take hx)).2
 ·rw [List.getElem?_eq_none (by rw [normL_len]; simpa using hi), List.getElem?_eq_none (by simpa using hi)]

theorem getD_eq {p : List Int} {i : Nat} (h : i < p.length) : p.getD i 0 = p[i] := by rw [List.getD_eq_getElem?_getD, List.getElem?_eq_getElem h]; rfl
theorem filter_less {p q : Nat → Bool} : ∀ (l : List Nat), (∀ x ∈ l, p x = true → q x = true) → (l.filter p).length ≤ (l.filter q).length
 | [], _ => Nat.le_refl _
 | x :: l, h => by
  have ih := filter_less l fun y hy => h y (List.mem_cons_of_mem _ hy)
  have h0 := h x (List.mem_cons_self ..)
  rw [List.filter_cons, List.filter_cons]
  cases hp : p x
  ·cases hq : q x
   ·exact ih
   ·exact Nat.le_succ_of_le ih
  ·rw [hp] at h0; rw [h0 rfl]; exact Nat.succ_le_succ ih
theorem filter_lt {p q : Nat → Bool} : ∀ (l : List Nat), (∀ x ∈ l, p x = true → q x = true) → (∃ x ∈ l, p x = false ∧ q x = true) → (l.filter p).length < (l.filter q).length
 | [], _, ⟨_, h, _⟩ => by cases h
 | x :: l, h, ⟨y, hy, h1, h2⟩ => by
  have h0 := h x (List.mem_cons_self ..)
  have ht := fun y hy => h y (List.mem_cons_of_mem x hy)
  have il := filter_less l ht
  rw [List.filter_cons, List.filter_cons]
  rcases List.mem_cons.1 hy with e | e
  ·subst e
   rw [h1, h2]
   exact Nat.lt_succ_of_le il
  ·have ih := filter_lt l ht ⟨y, e, h1, h2⟩
   cases hp : p x
   ·cases hq : q x
    ·exact ih
    ·exact Nat.lt_succ_of_lt ih
   ·rw [hp] at h0; rw [h0 rfl]; exact Nat.succ_lt_succ ih
end Go.Proofs.YtjoacldbgnphkaaGreatDoor

namespace Go.Proofs.YtjoacldbgnphkaaGreatDoor
open Go Go.RowKit

def refStepG (sg : List Int → Nat → List Int) (n : Nat) (p : List Int) : List Int := blocksL ((List.range n).map (sg p))
def implStepG (sg : List Int → Nat → List Int) (n : Nat) (p : List Int) : List Int := blocksL ((List.range n).map fun i => p.getD i 0 :: sg p i)
/-- The partitions, round by round. -/
def partsG (sg : List Int → Nat → List Int) (n : Nat) : Nat → List Int
 | 0 => List.replicate n 0
 | r + 1 => refStepG sg n (partsG sg n r)
theorem partsG_len (sg : List Int → Nat → List Int) (n : Nat) : ∀ r, (partsG sg n r).length = n
 | 0 => by simp [partsG]
 | r + 1 => by show (refStepG _ _ _).length = n; unfold refStepG; rw [blocksL_len]; simp
theorem partsG_range (sg : List Int → Nat → List Int) {n : Nat} : ∀ (r : Nat) {x : Int}, x ∈ partsG sg n r → 0 ≤ x ∧ x < (n : Int)
 | 0, x, h => by
  have h1 : n ≠ 0 ∧ x = 0 := by simpa [partsG] using h
  omega
 | r + 1, x, h => by
  have h1 := blocksL_range (show x ∈ blocksL _ from h)
  simpa using h1
/-- Two states in one block. -/
def EqG (sg : List Int → Nat → List Int) (n r i j : Nat) : Prop := (partsG sg n r).getD i 0 = (partsG sg n r).getD j 0
theorem eqG_succ {sg : List Int → Nat → List Int} {n r i j : Nat} (hi : i < n) (hj : j < n) : EqG sg n (r + 1) i j ↔ sg (partsG sg n r) i = sg (partsG sg n r) j := by
 unfold EqG
 rw [getD_eq (by rw [partsG_len]; exact hi), getD_eq (by rw [partsG_len]; exact hj)]
 have h := blocksL_pat (l := (List.range n).map (sg (partsG sg n r))) (i := i) (j := j) (by simpa using hi) (by simpa using hj)
 rw [List.getElem_map, List.getElem_map, List.getElem_range, List.getElem_range] at h
 exact h
/-- What a finer partition holds for one, a coarser one does too. -/
def MonoG (sg : List Int → Nat → List Int) (n : Nat) : Prop :=
 ∀ p q : List Int, p.length = n → q.length = n → (∀ x ∈ p, 0 ≤ x ∧ x < (n : Int)) → (∀ x ∈ q, 0 ≤ x ∧ x < (n : Int)) → (∀ i j, i < n → j < n → q.getD i 0 = q.getD j 0 → p.getD i 0 = p.getD j 0) → ∀ i j, i < n → j < n → sg q i = sg q j → sg p i = sg p j
theorem eqG_mono {sg : List Int → Nat → List Int} {n : Nat} (hgo : MonoG sg n) : ∀ r {i j : Nat}, i < n → j < n → EqG sg n (r + 1) i j → EqG sg n r i j
 | 0, i, j, hi, hj, _ => by
  unfold EqG partsG
  rw [List.getD_eq_getElem?_getD, List.getD_eq_getElem?_getD, List.getElem?_replicate, List.getElem?_replicate, if_pos hi, if_pos hj]
 | r + 1, i, j, hi, hj, h => by
  rw [eqG_succ hi hj] at h ⊢
  exact hgo _ _ (partsG_len sg n r) (partsG_len sg n (r + 1)) (fun x => partsG_range sg r) (fun x => partsG_range sg (r + 1)) (fun i j hi hj => eqG_mono hgo r hi hj) i j hi hj h
theorem implStepG_eq {sg : List Int → Nat → List Int} {n : Nat} (hgo : MonoG sg n) (r : Nat) : implStepG sg n (partsG sg n r) = partsG sg n (r + 1) := by
 show implStepG _ _ _ = refStepG _ _ _
 unfold implStepG refStepG
 refine blocksL_same (by simp) fun i j hi hj => ?_
 have hi' : i < n := by simpa using hi
 have hj' : j < n := by simpa using hj
 simp only [List.getElem_map, List.getElem_range, List.cons.injEq]
 constructor
 ·exact fun h => h.2
 ·exact fun h => ⟨eqG_mono hgo r hi' hj' ((eqG_succ hi' hj').2 h), h⟩
/-- A partition is fixed by which states are in one block. -/
theorem partsG_pat {sg : List Int → Nat → List Int} {n r s : Nat} (h : ∀ i j, i < n → j < n → (EqG sg n r i j ↔ EqG sg n s i j)) : partsG sg n r = partsG sg n s := by
 have key : ∀ r, partsG sg n r = blocksL (partsG sg n r) := fun r => by
  cases r with
  | zero =>
   show List.replicate n (0 : Int) = normL (firstIx (List.replicate n (0 : Int)))
   have : firstIx (List.replicate n (0 : Int)) = List.replicate n 0 := by
    refine List.ext_getElem? fun i => ?_
    by_cases hi : i < n
    ·rw [firstIx_at (by simpa using hi), List.getElem?_replicate, if_pos hi, List.getElem_replicate]
     congr 1
     cases n with
     | zero => omega
     | succ n => rw [List.replicate_succ]; unfold fstIx; rw [if_pos rfl]; rfl
    ·rw [List.getElem?_eq_none (by rw [firstIx_len]; simpa using hi), List.getElem?_eq_none (by simpa using hi)]
   rw [this, normL_zeros]
  | succ r =>
   show blocksL _ = blocksL (blocksL _)
   refine blocksL_same (by rw [blocksL_len]) fun i j hi hj => ?_
   rw [blocksL_pat (by simpa using hi) (by simpa using hj)]
 rw [key r, key s]
 refine blocksL_same (by rw [partsG_len, partsG_len]) fun i j hi hj => ?_
 rw [partsG_len] at hi hj
 have h1 := h i j hi hj
 unfold EqG at h1
 rwa [getD_eq (by rw [partsG_len]; exact hi), getD_eq (by rw [partsG_len]; exact hj), getD_eq (by rw [partsG_len]; exact hi), getD_eq (by rw [partsG_len]; exact hj)] at h1
/-- The first state of its block. -/
def isFstG (sg : List Int → Nat → List Int) (n r i : Nat) : Bool := decide (fstIx (partsG sg n r) ((partsG sg n r).getD i 0) = i)
def cntG (sg : List Int → Nat → List Int) (n r : Nat) : Nat := ((List.range n).filter (isFstG sg n r)).length
theorem isFstG_iff {sg : List Int → Nat → List Int} {n r i : Nat} (hi : i < n) : isFstG sg n r i = true ↔ ∀ j, j < i → ¬ EqG sg n r j i := by
 unfold isFstG
 have hl := partsG_len sg n r
 rw [decide_eq_true_iff]
 constructor
 ·intro h j hj he
  have : j < fstIx (partsG sg n r) ((partsG sg n r).getD i 0) := by omega
  refine fstIx_first this ?_
  unfold EqG at he
  rw [← he, getD_eq (by omega)]
  exact List.getElem?_eq_getElem _
 ·intro h
  refine fstIx_eq ?_ fun j hj hk => ?_
  ·rw [getD_eq (by omega)]; exact List.getElem?_eq_getElem _
  ·refine h j hj ?_
   unfold EqG
   rw [List.getD_eq_getElem?_getD (l := partsG sg n r) (i := j), hk]
   rfl
theorem fstG_of {sg : List Int → Nat → List Int} {n r i : Nat} (hi : i < n) : ∃ f, f ≤ i ∧ EqG sg n r f i ∧ isFstG sg n r f = true := by
 have hl := partsG_len sg n r
 have hm : (partsG sg n r).getD i 0 ∈ partsG sg n r := by rw [getD_eq (by omega)]; exact List.getElem_mem _
 have h1 := fstIx_get hm
 have hle : fstIx (partsG sg n r) ((partsG sg n r).getD i 0) ≤ i := by
  rcases Nat.lt_or_ge i (fstIx (partsG sg n r) ((partsG sg n r).getD i 0)) with k | k
  ·exact absurd (by rw [getD_eq (by omega)]; exact List.getElem?_eq_getElem _) (fstIx_first k)
  ·exact k
 refine ⟨_, hle, ?_, ?_⟩
 ·unfold EqG
  rw [List.getD_eq_getElem?_getD (l := partsG sg n r) (i := fstIx (partsG sg n r) ((partsG sg n r).getD i 0)), h1]
  rfl
 ·unfold isFstG
  rw [decide_eq_true_iff]
  congr 1
  rw [List.getD_eq_getElem?_getD (l := partsG sg n r) (i := fstIx (partsG sg n r) ((partsG sg n r).getD i 0)), h1]
  rfl
theorem cntG_grows {sg : List Int → Nat → List Int} {n r : Nat} (hgo : MonoG sg n) (hne : partsG sg n r ≠ partsG sg n (r + 1)) : cntG sg n r < cntG sg n (r + 1) := by
 unfold cntG
 refine filter_lt _ (fun x hx hp => ?_) ?_
 ·have hx := List.mem_range.1 hx
  rw [isFstG_iff hx] at hp ⊢
  exact fun j hj he => hp j hj (eqG_mono hgo r (by omega) hx he)
 ·refine Classical.byContradiction fun hno => hne ?_
  have hall : ∀ x, x < n → isFstG sg n (r + 1) x = true → isFstG sg n r x = true := fun x hx h1 => by
   cases h2 : isFstG sg n r x with
   | true => rfl
   | false => exact absurd ⟨x, List.mem_range.2 hx, h2, h1⟩ hno
  refine partsG_pat fun i j hi hj => ⟨fun h => ?_, eqG_mono hgo r hi hj⟩
  obtain ⟨f, hf, he, hfi⟩ := fstG_of (sg := sg) (r := r + 1) hi
  obtain ⟨g, hg, ke, kfi⟩ := fstG_of (sg := sg) (r := r + 1) hj
  have h1 := hall f (by omega) hfi
  have h2 := hall g (by omega) kfi
  rw [isFstG_iff (by omega)] at h1 h2
  have e1 := eqG_mono hgo r (show f < n by omega) hi he
  have e2 := eqG_mono hgo r (show g < n by omega) hj ke
  have efg : EqG sg n r f g := by unfold EqG at *; rw [e1, h, e2]
  have : f = g := by
   rcases Nat.lt_trichotomy f g with k | k | k
   ·exact absurd efg (h2 f k)
   ·exact k
   ·exact absurd (by unfold EqG at *; exact efg.symm) (h1 g k)
  subst this
  unfold EqG at *
  rw [← he, ke]
theorem cntG_le (sg : List Int → Nat → List Int) (n r : Nat) : cntG sg n r ≤ n := by
 unfold cntG
 refine Nat.le_trans (List.length_filter_le _ _) ?_
 simp
/-- As long as nothing stays, there are rounds fewer than states. -/
theorem roundsG_few {sg : List Int → Nat → List Int} {n : Nat} (hn : 0 < n) (hgo : MonoG sg n) {r : Nat} (h : ∀ s, s < r → partsG sg n s ≠ partsG sg n (s + 1)) : r < n := by
 have h0 : 1 ≤ cntG sg n 0 := by
  unfold cntG
  rw [Nat.succ_le_iff, List.length_pos_iff]
  refine List.ne_nil_of_mem (a := 0) (List.mem_filter.2 ⟨List.mem_range.2 hn, ?_⟩)
  rw [isFstG_iff hn]
  exact fun j hj => absurd hj (Nat.not_lt_zero _)
 have h1 : ∀ s, s ≤ r → s + 1 ≤ cntG sg n s := by
  intro s
  induction s with
  | zero => exact fun _ => h0
  | succ s ih =>
   intro hs
   have := ih (by omega)
   have := cntG_grows hgo (h s (by omega))
   omega
 have := h1 r (Nat.le_refl _)
 have := cntG_le sg n r
 omega
end Go.Proofs.YtjoacldbgnphkaaGreatDoor
