/-
  Partitions, plainly: numbers by first sight, and the refinement of the states of a deterministic system.
  Partitions by rounds, plainly, for any key of a state.
  What leaves a state, by label and block; the rounds of a system's partitions, and the round in which two states part. Plain.
  Orders of the states, automorphisms, their composition, and what the rounds of strong bisimilarity say of a state and its image. Plain.
  What a list of pairs joins: leaders, and what they keep. Plain.
  The edges moved and sorted are the edges, exactly if they are the edges in another order. Plain.
  A map that numbers its keys in the order in which they came.
  The refinement of a given partition of the states of a deterministic system. Plain.
  The orbits' partition refines the one by strong bisimilarity, and both are partitions in normal form. Plain.
-/
import Derived.Test.YtifoinannefcpaaGreatDoorA1
import Derived.Test.YtifoinannefcpaaGreatDoorA6
import Derived.Test.YtifoinannefcpaaGreatDoorA7
import Derived.Test.YtifoinannefcpaaGreatDoorA5
import Derived.Test.YtifoinannefcpaaGreatDoorA3
import Derived.Maps.OwnOps
import Derived.Test.YtifoinannefcpaaGreatDoorA8
import Derived.Lib.ItoaNum
import Derived.Lib.ItoaLen
import Derived.Deep.RegionLaw
import Derived.Deep.AppendLies
import Derived.Test.YtifoinannefcpaaGreatDoorA9
import Derived.Handy
import Derived.Deep.RegionHeld3
namespace Go.Proofs.YtifoinannefcpaaGreatDoor
open Go Go.RowKit

/-- The first place of an item, or the length. -/
def fstIx {α : Type} [DecidableEq α] : List α → α → Nat
 | [], _ => 0
 | y :: l, x => if y = x then 0 else fstIx l x + 1
theorem fstIx_le {α : Type} [DecidableEq α] : ∀ (l : List α) (x : α), fstIx l x ≤ l.length
 | [], _ => Nat.le_refl _
 | y :: l, x => by
  unfold fstIx
  split
  ·exact Nat.zero_le _
  ·exact Nat.succ_le_succ (fstIx_le l x)
theorem fstIx_lt {α : Type} [DecidableEq α] : ∀ {l : List α} {x : α}, x ∈ l → fstIx l x < l.length
 | [], _, h => by cases h
 | y :: l, x, h => by
  unfold fstIx
  split
  ·exact Nat.succ_pos _
  ·next hn =>
   rcases List.mem_cons.1 h with e | e
   ·exact absurd e.symm hn
   ·exact Nat.succ_lt_succ (fstIx_lt e)
theorem fstIx_not {α : Type} [DecidableEq α] : ∀ {l : List α} {x : α}, x ∉ l → fstIx l x = l.length
 | [], _, _ => rfl
 | y :: l, x, h => by
  have h1 : ¬ y = x := fun e => h (by rw [e]; exact List.mem_cons_self ..)
  unfold fstIx
  rw [if_neg h1, fstIx_not fun k => h (List.mem_cons_of_mem _ k)]
  rfl
theorem fstIx_get {α : Type} [DecidableEq α] : ∀ {l : List α} {x : α}, x ∈ l → l[fstIx l x]? = some x
 | [], _, h => by cases h
 | y :: l, x, h => by
  unfold fstIx
  by_cases e : y = x
  ·rw [if_pos e, e]; rfl
  ·rw [if_neg e]
   rcases List.mem_cons.1 h with k | k
   ·exact absurd k.symm e
   ·exact fstIx_get k
theorem fstIx_first {α : Type} [DecidableEq α] : ∀ {l : List α} {x : α} {j : Nat}, j < fstIx l x → l[j]? ≠ some x
 | [], _, j, h => by simp
 | y :: l, x, j, h => by
  unfold fstIx at h
  by_cases e : y = x
  ·rw [if_pos e] at h; cases h
  ·rw [if_neg e] at h
   cases j with
   | zero => simpa using e
   | succ j => exact fstIx_first (l := l) (Nat.lt_of_succ_lt_succ h)
theorem fstIx_eq {α : Type} [DecidableEq α] {l : List α} {x : α} {i : Nat} (h : l[i]? = some x) (hf : ∀ j, j < i → l[j]? ≠ some x) : fstIx l x = i := by
 have h1 := fstIx_get (List.mem_of_getElem? h)
 rcases Nat.lt_trichotomy (fstIx l x) i with k | k | k
 ·exact absurd h1 (hf _ k)
 ·exact k
 ·exact absurd h (fstIx_first k)
theorem fstIx_append {α : Type} [DecidableEq α] {l m : List α} {x : α} (h : x ∈ l) : fstIx (l ++ m) x = fstIx l x := by
 have h1 := fstIx_lt h
 refine fstIx_eq ?_ fun j hj => ?_
 ·rw [List.getElem?_append_left h1]; exact fstIx_get h
 ·rw [List.getElem?_append_left (by omega)]; exact fstIx_first hj
theorem fstIx_inj {α : Type} [DecidableEq α] {l : List α} {x y : α} (hx : x ∈ l) (hy : y ∈ l) (h : fstIx l x = fstIx l y) : x = y := by
 have h1 := fstIx_get hx
 rw [h, fstIx_get hy] at h1
 exact (Option.some.inj h1).symm

/-- The first places of the items. -/
def firstIx {α : Type} [DecidableEq α] (l : List α) : List Int := l.map fun x => (fstIx l x : Int)
theorem firstIx_len {α : Type} [DecidableEq α] (l : List α) : (firstIx l).length = l.length := by simp [firstIx]
theorem firstIx_at {α : Type} [DecidableEq α] {l : List α} {i : Nat} (h : i < l.length) : (firstIx l)[i]? = some (fstIx l l[i] : Int) := by
 unfold firstIx; rw [List.getElem?_map, List.getElem?_eq_getElem h]; rfl
theorem firstIx_same {α β : Type} [DecidableEq α] [DecidableEq β] {l : List α} {m : List β} (hn : l.length = m.length) (h : ∀ i j (hi : i < l.length) (hj : j < l.length), l[i] = l[j] ↔ m[i]'(by omega) = m[j]'(by omega)) : firstIx l = firstIx m := by
 refine List.ext_getElem? fun i => ?_
 by_cases hi : i < l.length
 ·rw [firstIx_at hi, firstIx_at (show i < m.length by omega)]
  have h1 := fstIx_get (List.getElem_mem hi)
  have hlt := fstIx_lt (List.getElem_mem hi)
  have e : fstIx m (m[i]'(by omega)) = fstIx l l[i] := by
   refine fstIx_eq ?_ fun j hj hk => ?_
   ·rw [List.getElem?_eq_getElem (show fstIx l l[i] < m.length by omega)]
    rw [List.getElem?_eq_getElem hlt] at h1
    exact congrArg some ((h _ _ hlt hi).1 (Option.some.inj h1))
   ·have hj2 : j < l.length := by omega
    rw [List.getElem?_eq_getElem (show j < m.length by omega)] at hk
    have := (h _ _ hj2 hi).2 (Option.some.inj hk)
    exact fstIx_first hj (by rw [List.getElem?_eq_getElem hj2, this])
  rw [e]
 ·rw [List.getElem?_eq_none (by rw [firstIx_len]; omega), List.getElem?_eq_none (by rw [firstIx_len]; omega)]

/-- The items in the order of their first sight. -/
def addNew (acc : List Int) (x : Int) : List Int := if x ∈ acc then acc else acc ++ [x]
def firsts (l : List Int) : List Int := l.foldl addNew []
theorem firsts_snoc (l : List Int) (x : Int) : firsts (l ++ [x]) = addNew (firsts l) x := by unfold firsts; rw [List.foldl_append]; rfl
theorem fold_grows : ∀ (m acc : List Int), ∃ t, m.foldl addNew acc = acc ++ t
 | [], acc => ⟨[], by simp⟩
 | x :: m, acc => by
  obtain ⟨t, ht⟩ := fold_grows m (addNew acc x)
  have : ∃ s, addNew acc x = acc ++ s := by
   unfold addNew
   by_cases h : x ∈ acc
   ·rw [if_pos h]; exact ⟨[], by simp⟩
   ·rw [if_neg h]; exact ⟨[x], rfl⟩
  obtain ⟨s, hs⟩ := this
  refine ⟨s ++ t, ?_⟩
  rw [List.foldl_cons, ht, hs, List.append_assoc]
theorem firsts_append (l m : List Int) : ∃ t, firsts (l ++ m) = firsts l ++ t := by
 unfold firsts; rw [List.foldl_append]; exact fold_grows m _
theorem firsts_mem : ∀ (l : List Int) (x : Int), x ∈ firsts l ↔ x ∈ l := by
 have h : ∀ (m acc : List Int) (x : Int), x ∈ m.foldl addNew acc ↔ x ∈ acc ∨ x ∈ m := by
  intro m
  induction m with
  | nil => intro acc x; simp
  | cons y m ih =>
   intro acc x
   rw [List.foldl_cons, ih]
   have : x ∈ addNew acc y ↔ x ∈ acc ∨ x = y := by
    unfold addNew
    by_cases h : y ∈ acc
    ·rw [if_pos h]
     exact ⟨.inl, fun k => k.elim id fun e => e ▸ h⟩
    ·rw [if_neg h, List.mem_append, List.mem_singleton]
   rw [this, List.mem_cons, or_assoc]
 intro l x
 unfold firsts
 rw [h]
 simp
theorem firsts_len : ∀ (l : List Int), (firsts l).length ≤ l.length := by
 have h : ∀ (m acc : List Int), (m.foldl addNew acc).length ≤ acc.length + m.length := by
  intro m
  induction m with
  | nil => intro acc; simp
  | cons y m ih =>
   intro acc
   rw [List.foldl_cons]
   refine Nat.le_trans (ih _) ?_
   have : (addNew acc y).length ≤ acc.length + 1 := by
    unfold addNew
    by_cases h : y ∈ acc
    ·rw [if_pos h]; omega
    ·rw [if_neg h]; simp
   rw [List.length_cons]; omega
 intro l
 have := h l []
 unfold firsts
 simpa using this
/-- Numbers by first sight. -/
def normL (l : List Int) : List Int := l.map fun x => (fstIx (firsts l) x : Int)
theorem normL_len (l : List Int) : (normL l).length = l.length := by simp [normL]
theorem normL_get {l : List Int} {i : Nat} (h : i < l.length) : (normL l)[i]? = some (fstIx (firsts l) l[i] : Int) := by
 unfold normL; rw [List.getElem?_map, List.getElem?_eq_getElem h]; rfl
theorem normL_at {l : List Int} {i : Nat} (h : i < l.length) : (normL l)[i]? = some (fstIx (firsts (l.take i)) l[i] : Int) := by
 rw [normL_get h]
 have e : l = (l.take i ++ [l[i]]) ++ l.drop (i + 1) := by
  rw [List.append_assoc, List.singleton_append, ← List.drop_eq_getElem_cons h, List.take_append_drop]
 obtain ⟨t, ht⟩ := firsts_append (l.take i ++ [l[i]]) (l.drop (i + 1))
 rw [← e] at ht
 have hm : l[i] ∈ firsts (l.take i ++ [l[i]]) := (firsts_mem _ _).2 (List.mem_append.2 (.inr (List.mem_singleton.2 rfl)))
 rw [ht, fstIx_append hm, firsts_snoc]
 unfold addNew
 by_cases hx : l[i] ∈ firsts (l.take i)
 ·rw [if_pos hx]
 ·rw [if_neg hx, fstIx_not hx]
  congr 2
  refine fstIx_eq ?_ fun j hj hk => ?_
  ·simp
  ·rw [List.getElem?_append_left hj] at hk
   exact hx (List.mem_of_getElem? hk)
theorem normL_range {l : List Int} {x : Int} (h : x ∈ normL l) : 0 ≤ x ∧ x < (l.length : Int) := by
 obtain ⟨y, hy, rfl⟩ := List.mem_map.1 h
 have h1 := fstIx_lt ((firsts_mem l y).2 hy)
 have h2 := firsts_len l
 omega
theorem normL_same {l : List Int} {i j : Nat} (hi : i < l.length) (hj : j < l.length) : (normL l)[i]'(by rw [normL_len]; exact hi) = (normL l)[j]'(by rw [normL_len]; exact hj) ↔ l[i] = l[j] := by
 have h1 := normL_get hi
 have h2 := normL_get hj
 rw [List.getElem?_eq_getElem (by rw [normL_len]; exact hi)] at h1
 rw [List.getElem?_eq_getElem (by rw [normL_len]; exact hj)] at h2
 rw [Option.some.inj h1, Option.some.inj h2]
 constructor
 ·intro h
  exact fstIx_inj ((firsts_mem _ _).2 (List.getElem_mem hi)) ((firsts_mem _ _).2 (List.getElem_mem hj)) (by omega)
 ·intro h; rw [h]
theorem firstIx_pat {α : Type} [DecidableEq α] {l : List α} {i j : Nat} (hi : i < l.length) (hj : j < l.length) : (firstIx l)[i]'(by rw [firstIx_len]; exact hi) = (firstIx l)[j]'(by rw [firstIx_len]; exact hj) ↔ l[i] = l[j] := by
 have h1 := firstIx_at hi
 have h2 := firstIx_at hj
 rw [List.getElem?_eq_getElem (by rw [firstIx_len]; exact hi)] at h1
 rw [List.getElem?_eq_getElem (by rw [firstIx_len]; exact hj)] at h2
 rw [Option.some.inj h1, Option.some.inj h2]
 constructor
 ·intro h
  exact fstIx_inj (List.getElem_mem hi) (List.getElem_mem hj) (by omega)
 ·intro h; rw [h]
/-- The blocks of equal items. -/
def blocksL {α : Type} [DecidableEq α] (l : List α) : List Int := normL (firstIx l)
theorem blocksL_len {α : Type} [DecidableEq α] (l : List α) : (blocksL l).length = l.length := by unfold blocksL; rw [normL_len, firstIx_len]
theorem blocksL_pat {α : Type} [DecidableEq α] {l : List α} {i j : Nat} (hi : i < l.length) (hj : j < l.length) : (blocksL l)[i]'(by rw [blocksL_len]; exact hi) = (blocksL l)[j]'(by rw [blocksL_len]; exact hj) ↔ l[i] = l[j] := by
 unfold blocksL
 rw [normL_same (by rw [firstIx_len]; exact hi) (by rw [firstIx_len]; exact hj), firstIx_pat hi hj]
theorem blocksL_same {α β : Type} [DecidableEq α] [DecidableEq β] {l : List α} {m : List β} (hn : l.length = m.length) (h : ∀ i j (hi : i < l.length) (hj : j < l.length), l[i] = l[j] ↔ m[i]'(by omega) = m[j]'(by omega)) : blocksL l = blocksL m := by
 unfold blocksL; rw [firstIx_same hn h]
theorem blocksL_range {α : Type} [DecidableEq α] {l : List α} {x : Int} (h : x ∈ blocksL l) : 0 ≤ x ∧ x < (l.length : Int) := by
 have := normL_range h
 rwa [firstIx_len] at this
theorem normL_zeros (n : Nat) : normL (List.replicate n (0 : Int)) = List.replicate n 0 := by
 refine List.ext_getElem? fun i => ?_
 by_cases hi : i < n
 ·rw [normL_at (by simpa using hi)]
  rw [List.getElem?_replicate, if_pos hi]
  congr 1
  have : ∀ m : List Int, (∀ x ∈ m, x = 0) → fstIx (firsts m) 0 = 0 := fun m hm => by
   cases h : firsts m with
   | nil => rfl
   | cons y t =>
    have : y = 0 := hm y ((firsts_mem m y).1 (by rw [h]; exact List.mem_cons_self ..))
    unfold fstIx
    rw [if_pos this]
  rw [List.getElem_replicate, this]
  ·rfl
  ·intro x hx
   exact (List.mem_replicate.1 (List.mem_of_mem_take hx)).2
 ·rw [List.getElem?_eq_none (by rw [normL_len]; simpa using hi), List.getElem?_eq_none (by simpa using hi)]

theorem getD_eq {p : List Int} {i : Nat} (h : i < p.length) : p.getD i 0 = p[i] := by rw [List.getD_eq_getElem?_getD, List.getElem?_eq_getElem h]; rfl
theorem filter_less {p q : Nat → Bool} : ∀ (l : List Nat), (∀ x ∈ l, p x = true → q x = true) → (l.filter p).length ≤ (l.filter q).length
 | [], _ => Nat.le_refl _
 | x :: l, h => by
  have ih := filter_less l fun y hy => h y (List.mem_cons_of_mem _ hy)
  have h0 := h x (List.mem_cons_self ..)
  rw [List.filter_cons, List.filter_cons]
  cases hp : p x
  ·cases hq : q x
   ·exact ih
   ·exact Nat.le_succ_of_le ih
  ·rw [hp] at h0; rw [h0 rfl]; exact Nat.succ_le_succ ih
theorem filter_lt {p q : Nat → Bool} : ∀ (l : List Nat), (∀ x ∈ l, p x = true → q x = true) → (∃ x ∈ l, p x = false ∧ q x = true) → (l.filter p).length < (l.filter q).length
 | [], _, ⟨_, h, _⟩ => by cases h
 | x :: l, h, ⟨y, hy, h1, h2⟩ => by
  have h0 := h x (List.mem_cons_self ..)
  have ht := fun y hy => h y (List.mem_cons_of_mem x hy)
  have il := filter_less l ht
  rw [List.filter_cons, List.filter_cons]
  rcases List.mem_cons.1 hy with e | e
  ·subst e
   rw [h1, h2]
   exact Nat.lt_succ_of_le il
  ·have ih := filter_lt l ht ⟨y, e, h1, h2⟩
   cases hp : p x
   ·cases hq : q x
    ·exact ih
    ·exact Nat.lt_succ_of_lt ih
   ·rw [hp] at h0; rw [h0 rfl]; exact Nat.succ_lt_succ ih
end Go.Proofs.YtifoinannefcpaaGreatDoor

namespace Go.Proofs.YtifoinannefcpaaGreatDoor
open Go Go.RowKit

def refStepG (sg : List Int → Nat → List Int) (n : Nat) (p : List Int) : List Int := blocksL ((List.range n).map (sg p))
def implStepG (sg : List Int → Nat → List Int) (n : Nat) (p : List Int) : List Int := blocksL ((List.range n).map fun i => p.getD i 0 :: sg p i)
/-- The partitions, round by round. -/
def partsG (sg : List Int → Nat → List Int) (n : Nat) : Nat → List Int
 | 0 => List.replicate n 0
 | r + 1 => refStepG sg n (partsG sg n r)
theorem partsG_len (sg : List Int → Nat → List Int) (n : Nat) : ∀ r, (partsG sg n r).length = n
 | 0 => by simp [partsG]
 | r + 1 => by show (refStepG _ _ _).length = n; unfold refStepG; rw [blocksL_len]; simp
theorem partsG_range (sg : List Int → Nat → List Int) {n : Nat} : ∀ (r : Nat) {x : Int}, x ∈ partsG sg n r → 0 ≤ x ∧ x < (n : Int)
 | 0, x, h => by
  have h1 : n ≠ 0 ∧ x = 0 := by simpa [partsG] using h
  omega
 | r + 1, x, h => by
  have h1 := blocksL_range (show x ∈ blocksL _ from h)
  simpa using h1
/-- Two states in one block. -/
def EqG (sg : List Int → Nat → List Int) (n r i j : Nat) : Prop := (partsG sg n r).getD i 0 = (partsG sg n r).getD j 0
theorem eqG_succ {sg : List Int → Nat → List Int} {n r i j : Nat} (hi : i < n) (hj : j < n) : EqG sg n (r + 1) i j ↔ sg (partsG sg n r) i = sg (partsG sg n r) j := by
 unfold EqG
 rw [getD_eq (by rw [partsG_len]; exact hi), getD_eq (by rw [partsG_len]; exact hj)]
 have h := blocksL_pat (l := (List.range n).map (sg (partsG sg n r))) (i := i) (j := j) (by simpa using hi) (by simpa using hj)
 rw [List.getElem_map, List.getElem_map, List.getElem_range, List.getElem_range] at h
 exact h
/-- What a finer partition holds for one, a coarser one does too. -/
def MonoG (sg : List Int → Nat → List Int) (n : Nat) : Prop :=
 ∀ p q : List Int, p.length = n → q.length = n → (∀ x ∈ p, 0 ≤ x ∧ x < (n : Int)) → (∀ x ∈ q, 0 ≤ x ∧ x < (n : Int)) → (∀ i j, i < n → j < n → q.getD i 0 = q.getD j 0 → p.getD i 0 = p.getD j 0) → ∀ i j, i < n → j < n → sg q i = sg q j → sg p i = sg p j
theorem eqG_mono {sg : List Int → Nat → List Int} {n : Nat} (hgo : MonoG sg n) : ∀ r {i j : Nat}, i < n → j < n → EqG sg n (r + 1) i j → EqG sg n r i j
 | 0, i, j, hi, hj, _ => by
  unfold EqG partsG
  rw [List.getD_eq_getElem?_getD, List.getD_eq_getElem?_getD, List.getElem?_replicate, List.getElem?_replicate, if_pos hi, if_pos hj]
 | r + 1, i, j, hi, hj, h => by
  rw [eqG_succ hi hj] at h ⊢
  exact hgo _ _ (partsG_len sg n r) (partsG_len sg n (r + 1)) (fun x => partsG_range sg r) (fun x => partsG_range sg (r + 1)) (fun i j hi hj => eqG_mono hgo r hi hj) i j hi hj h
theorem implStepG_eq {sg : List Int → Nat → List Int} {n : Nat} (hgo : MonoG sg n) (r : Nat) : implStepG sg n (partsG sg n r) = partsG sg n (r + 1) := by
 show implStepG _ _ _ = refStepG _ _ _
 unfold implStepG refStepG
 refine blocksL_same (by simp) fun i j hi hj => ?_
 have hi' : i < n := by simpa using hi
 have hj' : j < n := by simpa using hj
 simp only [List.getElem_map, List.getElem_range, List.cons.injEq]
 constructor
 ·exact fun h => h.2
 ·exact fun h => ⟨eqG_mono hgo r hi' hj' ((eqG_succ hi' hj').2 h), h⟩
/-- A partition is fixed by which states are in one block. -/
theorem partsG_pat {sg : List Int → Nat → List Int} {n r s : Nat} (h : ∀ i j, i < n → j < n → (EqG sg n r i j ↔ EqG sg n s i j)) : partsG sg n r = partsG sg n s := by
 have key : ∀ r, partsG sg n r = blocksL (partsG sg n r) := fun r => by
  cases r with
  | zero =>
   show List.replicate n (0 : Int) = normL (firstIx (List.replicate n (0 : Int)))
   have : firstIx (List.replicate n (0 : Int)) = List.replicate n 0 := by
    refine List.ext_getElem? fun i => ?_
    by_cases hi : i < n
    ·rw [firstIx_at (by simpa using hi), List.getElem?_replicate, if_pos hi, List.getElem_replicate]
     congr 1
     cases n with
     | zero => omega
     | succ n => rw [List.replicate_succ]; unfold fstIx; rw [if_pos rfl]; rfl
    ·rw [List.getElem?_eq_none (by rw [firstIx_len]; simpa using hi), List.getElem?_eq_none (by simpa using hi)]
   rw [this, normL_zeros]
  | succ r =>
   show blocksL _ = blocksL (blocksL _)
   refine blocksL_same (by rw [blocksL_len]) fun i j hi hj => ?_
   rw [blocksL_pat (by simpa using hi) (by simpa using hj)]
 rw [key r, key s]
 refine blocksL_same (by rw [partsG_len, partsG_len]) fun i j hi hj => ?_
 rw [partsG_len] at hi hj
 have h1 := h i j hi hj
 unfold EqG at h1
 rwa [getD_eq (by rw [partsG_len]; exact hi), getD_eq (by rw [partsG_len]; exact hj), getD_eq (by rw [partsG_len]; exact hi), getD_eq (by rw [partsG_len]; exact hj)] at h1
/-- The first state of its block. -/
def isFstG (sg : List Int → Nat → List Int) (n r i : Nat) : Bool := decide (fstIx (partsG sg n r) ((partsG sg n r).getD i 0) = i)
def cntG (sg : List Int → Nat → List Int) (n r : Nat) : Nat := ((List.range n).filter (isFstG sg n r)).length
theorem isFstG_iff {sg : List Int → Nat → List Int} {n r i : Nat} (hi : i < n) : isFstG sg n r i = true ↔ ∀ j, j < i → ¬ EqG sg n r j i := by
 unfold isFstG
 have hl := partsG_len sg n r
 rw [decide_eq_true_iff]
 constructor
 ·intro h j hj he
  have : j < fstIx (partsG sg n r) ((partsG sg n r).getD i 0) := by omega
  refine fstIx_first this ?_
  unfold EqG at he
  rw [← he, getD_eq (by omega)]
  exact List.getElem?_eq_getElem _
 ·intro h
  refine fstIx_eq ?_ fun j hj hk => ?_
  ·rw [getD_eq (by omega)]; exact List.getElem?_eq_getElem _
  ·refine h j hj ?_
   unfold EqG
   rw [List.getD_eq_getElem?_getD (l := partsG sg n r) (i := j), hk]
   rfl
theorem fstG_of {sg : List Int → Nat → List Int} {n r i : Nat} (hi : i < n) : ∃ f, f ≤ i ∧ EqG sg n r f i ∧ isFstG sg n r f = true := by
 have hl := partsG_len sg n r
 have hm : (partsG sg n r).getD i 0 ∈ partsG sg n r := by rw [getD_eq (by omega)]; exact List.getElem_mem _
 have h1 := fstIx_get hm
 have hle : fstIx (partsG sg n r) ((partsG sg n r).getD i 0) ≤ i := by
  rcases Nat.lt_or_ge i (fstIx (partsG sg n r) ((partsG sg n r).getD i 0)) with k | k
  ·exact absurd (by rw [getD_eq (by omega)]; exact List.getElem?_eq_getElem _) (fstIx_first k)
  ·exact k
 refine ⟨_, hle, ?_, ?_⟩
 ·unfold EqG
  rw [List.getD_eq_getElem?_getD (l := partsG sg n r) (i := fstIx (partsG sg n r) ((partsG sg n r).getD i 0)), h1]
  rfl
 ·unfold isFstG
  rw [decide_eq_true_iff]
  congr 1
  rw [List.getD_eq_getElem?_getD (l := partsG sg n r) (i := fstIx (partsG sg n r) ((partsG sg n r).getD i 0)), h1]
  rfl
theorem cntG_grows {sg : List Int → Nat → List Int} {n r : Nat} (hgo : MonoG sg n) (hne : partsG sg n r ≠ partsG sg n (r + 1)) : cntG sg n r < cntG sg n (r + 1) := by
 unfold cntG
 refine filter_lt _ (fun x hx hp => ?_) ?_
 ·have hx := List.mem_range.1 hx
  rw [isFstG_iff hx] at hp ⊢
  exact fun j hj he => hp j hj (eqG_mono hgo r (by omega) hx he)
 ·refine Classical.byContradiction fun hno => hne ?_
  have hall : ∀ x, x < n → isFstG sg n (r + 1) x = true → isFstG sg n r x = true := fun x hx h1 => by
   cases h2 : isFstG sg n r x with
   | true => rfl
   | false => exact absurd ⟨x, List.mem_range.2 hx, h2, h1⟩ hno
  refine partsG_pat fun i j hi hj => ⟨fun h => ?_, eqG_mono hgo r hi hj⟩
  obtain ⟨f, hf, he, hfi⟩ := fstG_of (sg := sg) (r := r + 1) hi
  obtain ⟨g, hg, ke, kfi⟩ := fstG_of (sg := sg) (r := r + 1) hj
  have h1 := hall f (by omega) hfi
  have h2 := hall g (by omega) kfi
  rw [isFstG_iff (by omega)] at h1 h2
  have e1 := eqG_mono hgo r (show f < n by omega) hi he
  have e2 := eqG_mono hgo r (show g < n by omega) hj ke
  have efg : EqG sg n r f g := by unfold EqG at *; rw [e1, h, e2]
  have : f = g := by
   rcases Nat.lt_trichotomy f g with k | k | k
   ·exact absurd efg (h2 f k)
   ·exact k
   ·exact absurd (by unfold EqG at *; exact efg.symm) (h1 g k)
  subst this
  unfold EqG at *
  rw [← he, ke]
theorem cntG_le (sg : List Int → Nat → List Int) (n r : Nat) : cntG sg n r ≤ n := by
 unfold cntG
 refine Nat.le_trans (List.length_filter_le _ _) ?_
 simp
/-- As long as nothing stays, there are rounds fewer than states. -/
theorem roundsG_few {sg : List Int → Nat → List Int} {n : Nat} (hn : 0 < n) (hgo : MonoG sg n) {r : Nat} (h : ∀ s, s < r → partsG sg n s ≠ partsG sg n (s + 1)) : r < n := by
 have h0 : 1 ≤ cntG sg n 0 := by
  unfold cntG
  rw [Nat.succ_le_iff, List.length_pos_iff]
  refine List.ne_nil_of_mem (a := 0) (List.mem_filter.2 ⟨List.mem_range.2 hn, ?_⟩)
  rw [isFstG_iff hn]
  exact fun j hj => absurd hj (Nat.not_lt_zero _)
 have h1 : ∀ s, s ≤ r → s + 1 ≤ cntG sg n s := by
  intro s
  induction s with
  | zero => exact fun _ => h0
  | succ s ih =>
   intro hs
   have := ih (by omega)
   have := cntG_grows hgo (h s (by omega))
   omega
 have := h1 r (Nat.le_refl _)
 have := cntG_le sg n r
 omega
end Go.Proofs.YtifoinannefcpaaGreatDoor

namespace Go.Proofs.YtifoinannefcpaaGreatDoor
open Go Go.RowKit


def rawG (t : Lts) (p : List Int) (i : Nat) : List Int := (outOf t i).map fun e => e.lab * t.states + p.getD e.dst.toNat 0
def sgT (t : Lts) (p : List Int) (i : Nat) : List Int := Lib.compact ((rawG t p i).mergeSort fun x y => decide (x ≤ y))
theorem sgT_is (t : Lts) (p : List Int) (i : Nat) : IsSet (fun x => x ∈ rawG t p i) (sgT t p i) := sort_compact_is _
theorem sgT_iff {t : Lts} {p q : List Int} {i j : Nat} : sgT t p i = sgT t q j ↔ ∀ x, x ∈ rawG t p i ↔ x ∈ rawG t q j := by
 constructor
 ·intro h x
  rw [← (sgT_is t p i).mem, ← (sgT_is t q j).mem, h]
 ·intro h
  exact ((sgT_is t p i).congr h).unique (sgT_is t q j)
theorem code_inj {S l1 l2 b1 b2 : Int} (h1 : 0 ≤ b1) (h2 : b1 < S) (h3 : 0 ≤ b2) (h4 : b2 < S) (h : l1 * S + b1 = l2 * S + b2) : l1 = l2 ∧ b1 = b2 := by
 have hS : S ≠ 0 := by omega
 have e1 : (l1 * S + b1) / S = l1 := by rw [Int.add_comm, Int.add_mul_ediv_right _ _ hS, Int.ediv_eq_zero_of_lt h1 h2, Int.zero_add]
 have e2 : (l2 * S + b2) / S = l2 := by rw [Int.add_comm, Int.add_mul_ediv_right _ _ hS, Int.ediv_eq_zero_of_lt h3 h4, Int.zero_add]
 have : l1 = l2 := by rw [← e1, ← e2, h]
 subst this
 exact ⟨rfl, by omega⟩
/-- A partition of the states. -/
def InP (t : Lts) (p : List Int) : Prop := p.length = t.states.toNat ∧ ∀ x ∈ p, 0 ≤ x ∧ x < t.states
theorem InP.at {t : Lts} {p : List Int} (h : InP t p) {k : Int} (h0 : 0 ≤ k) (h1 : k < t.states) : 0 ≤ p.getD k.toNat 0 ∧ p.getD k.toNat 0 < t.states := by
 have hl : k.toNat < p.length := by rw [h.1]; omega
 rw [getD_eq hl]
 exact h.2 _ (List.getElem_mem _)
theorem out_edge {t : Lts} (hv : Valid t) {k : Int} {e : Edge} (h : e ∈ outOf t k) : EdgeOk t e := by
 obtain ⟨i, hi, rfl⟩ := List.mem_iff_getElem.1 (List.mem_filter.1 h).1
 exact hv.edge i hi
theorem raw_mem {t : Lts} {p : List Int} {i : Nat} {x : Int} : x ∈ rawG t p i ↔ ∃ e ∈ outOf t i, e.lab * t.states + p.getD e.dst.toNat 0 = x := List.mem_map
theorem sg_mono {t : Lts} (hv : Valid t) : MonoG (sgT t) t.states.toNat := by
 intro p q hpl hql hpr hqr hfine i j hi hj h
 have hS : ((t.states.toNat : Nat) : Int) = t.states := by have := hv.st0; omega
 have hp : InP t p := ⟨hpl, fun x hx => by have := hpr x hx; omega⟩
 have hq : InP t q := ⟨hql, fun x hx => by have := hqr x hx; omega⟩
 have key : ∀ i j : Nat, (∀ x ∈ rawG t q i, x ∈ rawG t q j) → ∀ x ∈ rawG t p i, x ∈ rawG t p j := by
  intro i j h x hx
  obtain ⟨e, he, rfl⟩ := raw_mem.1 hx
  obtain ⟨o, ho, h1⟩ := raw_mem.1 (h _ (raw_mem.2 ⟨e, he, rfl⟩))
  have ke := out_edge hv he
  have ko := out_edge hv ho
  have h2 := hq.at ke.d0 ke.d1
  have h3 := hq.at ko.d0 ko.d1
  obtain ⟨e1, e2⟩ := code_inj h3.1 h3.2 h2.1 h2.2 h1
  have := hfine o.dst.toNat e.dst.toNat (by have := ko.d0; have := ko.d1; omega) (by have := ke.d0; have := ke.d1; omega) e2
  exact raw_mem.2 ⟨o, ho, by rw [e1, this]⟩
 rw [sgT_iff] at h ⊢
 exact fun x => ⟨key i j (fun y => (h y).1) x, key j i (fun y => (h y).2) x⟩

/-- The partitions, round by round. -/
def lev (t : Lts) : Nat → List Int := partsG (sgT t) t.states.toNat
theorem lev_len (t : Lts) (r : Nat) : (lev t r).length = t.states.toNat := partsG_len _ _ r
theorem lev_in {t : Lts} (hv : Valid t) (r : Nat) : InP t (lev t r) := ⟨lev_len t r, fun x hx => by have := partsG_range (sgT t) r hx; have := hv.st0; omega⟩
theorem lev_zero (t : Lts) : lev t 0 = List.replicate t.states.toNat 0 := rfl
theorem lev_imp {t : Lts} (hv : Valid t) (r : Nat) : blocksL ((List.range t.states.toNat).map fun i => (lev t r).getD i 0 :: sgT t (lev t r) i) = lev t (r + 1) := implStepG_eq (sg_mono hv) r
/-- The round from which on nothing changes. -/
def lastR (t : Lts) : Nat := ((List.range t.states.toNat).find? fun r => lev t r == lev t (r + 1)).getD t.states.toNat
theorem last_ok {t : Lts} (hv : Valid t) : lastR t < t.states.toNat ∧ lev t (lastR t) = lev t (lastR t + 1) ∧ ∀ s, s < lastR t → lev t s ≠ lev t (s + 1) := by
 have hS : 0 < t.states.toNat := by have := hv.st0; omega
 cases hf : (List.range t.states.toNat).find? fun r => lev t r == lev t (r + 1) with
 | none =>
  exfalso
  rw [List.find?_eq_none] at hf
  have := roundsG_few (r := t.states.toNat) hS (sg_mono hv) fun s hs h => by
   have h1 := hf s (List.mem_range.2 hs)
   apply h1
   rw [beq_iff_eq]
   exact h
  omega
 | some r =>
  have hl : lastR t = r := by unfold lastR; rw [hf]; rfl
  rw [hl]
  rw [List.find?_range_eq_some] at hf
  obtain ⟨h1, h2, h3⟩ := hf
  refine ⟨List.mem_range.1 h2, by simpa using h1, fun s hs h => ?_⟩
  have h4 := h3 s hs
  rw [h] at h4
  simp at h4
def levs (t : Lts) : List (List Int) := (List.range (lastR t + 1)).map (lev t)

end Go.Proofs.YtifoinannefcpaaGreatDoor

namespace Go.Proofs.YtifoinannefcpaaGreatDoor
open Go Go.RowKit


theorem edge_of_mem {t : Lts} (hv : Valid t) {e : Edge} (he : e ∈ t.edges) : EdgeOk t e := by
 obtain ⟨i, hi, rfl⟩ := List.mem_iff_getElem.1 he
 exact hv.edge i hi
/-- An order of n things. -/
structure OrdO (n : Nat) (o : List Int) : Prop where
 len : o.length = n
 nodup : o.Nodup
 low : ∀ x ∈ o, 0 ≤ x ∧ x < (n : Int)
theorem OrdO.at {n : Nat} {o : List Int} (h : OrdO n o) {i : Nat} (hi : i < n) : 0 ≤ o.getD i 0 ∧ o.getD i 0 < (n : Int) := by
 rw [getD_eq (by rw [h.len]; exact hi)]
 exact h.low _ (List.getElem_mem _)
theorem OrdO.inj {n : Nat} {o : List Int} (h : OrdO n o) {i j : Nat} (hi : i < n) (hj : j < n) (e : o.getD i 0 = o.getD j 0) : i = j := by
 rw [getD_eq (by rw [h.len]; exact hi), getD_eq (by rw [h.len]; exact hj)] at e
 exact (List.getElem_inj h.nodup).1 e

/-- All orders, step by step, as they are listed. -/
def ordsL (n : Nat) : Nat → List (List Int)
 | 0 => [[]]
 | k + 1 => (ordsL n k).flatMap fun o => (((List.range n).map fun (i : Nat) => (i : Int)).filter fun i => !o.contains i).map fun i => o ++ [i]
theorem ordsL_iff (n : Nat) : ∀ k (o : List Int), o ∈ ordsL n k ↔ o.length = k ∧ o.Nodup ∧ ∀ x ∈ o, 0 ≤ x ∧ x < (n : Int)
 | 0, o => by
  show o ∈ [[]] ↔ _
  rw [List.mem_singleton]
  constructor
  ·rintro rfl
   exact ⟨rfl, List.nodup_nil, fun x hx => by cases hx⟩
  ·rintro ⟨h, -⟩
   exact List.eq_nil_of_length_eq_zero h
 | k + 1, o => by
  show o ∈ List.flatMap _ _ ↔ _
  rw [List.mem_flatMap]
  constructor
  ·rintro ⟨p, hp, ho⟩
   obtain ⟨i, hi, rfl⟩ := List.mem_map.1 ho
   obtain ⟨h1, h2, h3⟩ := (ordsL_iff n k p).1 hp
   obtain ⟨hi1, hi2⟩ := List.mem_filter.1 hi
   obtain ⟨j, hj, rfl⟩ := List.mem_map.1 hi1
   rw [List.mem_range] at hj
   have hni : (j : Int) ∉ p := fun hm => by
    rw [List.contains_iff_mem.2 hm] at hi2
    cases hi2
   refine ⟨by rw [List.length_append, h1]; rfl, ?_, ?_⟩
   ·rw [List.nodup_append]
    refine ⟨h2, by simp, fun a ha b hb e => ?_⟩
    rw [List.mem_singleton] at hb
    subst hb
    subst e
    exact hni ha
   ·intro x hx
    rcases List.mem_append.1 hx with hx | hx
    ·exact h3 x hx
    ·rw [List.mem_singleton] at hx
     subst hx
     omega
  ·rintro ⟨h1, h2, h3⟩
   have hne : o ≠ [] := fun e => by rw [e] at h1; cases h1
   obtain ⟨p, x, rfl⟩ : ∃ p x, o = p ++ [x] := ⟨o.dropLast, o.getLast hne, (List.dropLast_concat_getLast hne).symm⟩
   rw [List.nodup_append] at h2
   rw [List.length_append, List.length_singleton] at h1
   have hx := h3 x (by simp)
   refine ⟨p, (ordsL_iff n k p).2 ⟨by omega, h2.1, fun y hy => h3 y (by simp [hy])⟩, List.mem_map.2 ⟨x, List.mem_filter.2 ⟨List.mem_map.2 ⟨x.toNat, List.mem_range.2 (by omega), by omega⟩, ?_⟩, rfl⟩⟩
   have hn : x ∉ p := fun hm => h2.2.2 x hm x (by simp) rfl
   rw [Bool.not_eq_true', Bool.eq_false_iff]
   exact fun hc => hn (List.contains_iff_mem.1 hc)
theorem ords_iff {n : Nat} {o : List Int} : o ∈ ordsL n n ↔ OrdO n o := by
 rw [ordsL_iff]
 exact ⟨fun h => ⟨h.1, h.2.1, h.2.2⟩, fun h => ⟨h.len, h.nodup, h.low⟩⟩

/-- An edge, moved. -/
def mvE (o : List Int) (e : Edge) : Edge := ⟨o.getD e.src.toNat 0, e.lab, o.getD e.dst.toNat 0⟩
/-- An automorphism. -/
structure AutO (t : Lts) (o : List Int) : Prop where
 ord : OrdO t.states.toNat o
 init : o.getD t.initial.toNat 0 = t.initial
 edges : (t.edges.map (mvE o)).Perm t.edges
/-- One order after another. -/
def compO (n : Nat) (a b : List Int) : List Int := (List.range n).map fun i => a.getD (b.getD i 0).toNat 0
theorem compO_at {n : Nat} (a b : List Int) {i : Nat} (hi : i < n) : (compO n a b).getD i 0 = a.getD (b.getD i 0).toNat 0 := by
 unfold compO
 rw [getD_eq (by simpa using hi), List.getElem_map, List.getElem_range]
theorem OrdO.comp {n : Nat} {a b : List Int} (ha : OrdO n a) (hb : OrdO n b) : OrdO n (compO n a b) where
 len := by simp [compO]
 nodup := by
  rw [List.nodup_iff_pairwise_ne, compO, List.pairwise_map]
  refine List.Pairwise.imp_of_mem ?_ List.pairwise_lt_range
  intro i j hi hj hlt e
  rw [List.mem_range] at hi hj
  have h1 := hb.at hi
  have h2 := hb.at hj
  have h3 := ha.inj (i := (b.getD i 0).toNat) (j := (b.getD j 0).toNat) (by omega) (by omega) e
  have h4 := hb.inj hi hj (by omega)
  omega
 low := by
  intro x hx
  obtain ⟨i, hi, rfl⟩ := List.mem_map.1 hx
  rw [List.mem_range] at hi
  have h1 := hb.at hi
  exact ha.at (by omega)
theorem AutO.comp {t : Lts} (hv : Valid t) {a b : List Int} (ha : AutO t a) (hb : AutO t b) : AutO t (compO t.states.toNat a b) := by
 have hst := hv.st0
 have hin0 := hv.in0
 have hin1 := hv.in1
 refine ⟨ha.ord.comp hb.ord, ?_, ?_⟩
 ·rw [compO_at a b (by omega), hb.init, ha.init]
 ·have he : t.edges.map (mvE (compO t.states.toNat a b)) = (t.edges.map (mvE b)).map (mvE a) := by
   rw [List.map_map]
   refine List.map_congr_left fun e hm => ?_
   have hk := edge_of_mem hv hm
   have h1 := hk.s0
   have h2 := hk.s1
   have h3 := hk.d0
   have h4 := hk.d1
   show mvE _ e = mvE a (mvE b e)
   unfold mvE
   rw [compO_at a b (by omega), compO_at a b (by omega)]
  rw [he]
  exact (hb.edges.map _).trans ha.edges
theorem AutO.id {t : Lts} (hv : Valid t) : AutO t ((List.range t.states.toNat).map fun (i : Nat) => (i : Int)) := by
 have hat : ∀ i, i < t.states.toNat → ((List.range t.states.toNat).map fun (i : Nat) => (i : Int)).getD i 0 = (i : Int) := fun i hi => by
  rw [getD_eq (by simpa using hi), List.getElem_map, List.getElem_range]
 have hst := hv.st0
 have hin0 := hv.in0
 have hin1 := hv.in1
 refine ⟨⟨by simp, ?_, ?_⟩, ?_, ?_⟩
 ·rw [List.nodup_iff_pairwise_ne, List.pairwise_map]
  exact List.pairwise_lt_range.imp fun {a b} h e => by omega
 ·intro x hx
  obtain ⟨i, hi, rfl⟩ := List.mem_map.1 hx
  rw [List.mem_range] at hi
  omega
 ·rw [hat _ (by omega)]
  omega
 ·have he : t.edges.map (mvE ((List.range t.states.toNat).map fun (i : Nat) => (i : Int))) = t.edges := by
   refine (List.map_congr_left (g := fun e => e) fun e hm => ?_).trans (List.map_id' _)
   have hk := edge_of_mem hv hm
   have h1 := hk.s0
   have h2 := hk.s1
   have h3 := hk.d0
   have h4 := hk.d1
   unfold mvE
   rw [hat _ (by omega), hat _ (by omega)]
   obtain ⟨x, y, z⟩ := e
   simp only at h1 h2 h3 h4 ⊢
   congr 1 <;> omega
  rw [he]
/-- A state and its image are in one block in every round. -/
theorem aut_round {t : Lts} (hv : Valid t) {o : List Int} (h : AutO t o) : ∀ (r i : Nat), i < t.states.toNat → EqG (sgT t) t.states.toNat r i (o.getD i 0).toNat
 | 0, i, hi => by
  have h1 := h.ord.at hi
  unfold EqG partsG
  rw [List.getD_eq_getElem?_getD, List.getD_eq_getElem?_getD, List.getElem?_replicate, List.getElem?_replicate, if_pos hi, if_pos (by omega)]
 | r + 1, i, hi => by
  have h1 := h.ord.at hi
  rw [eqG_succ hi (by omega), sgT_iff]
  have hp : ∀ e ∈ t.edges, (partsG (sgT t) t.states.toNat r).getD e.dst.toNat 0 = (partsG (sgT t) t.states.toNat r).getD (mvE o e).dst.toNat 0 := fun e hm => by
   have hk := edge_of_mem hv hm
   have h3 := hk.d0
   have h4 := hk.d1
   exact aut_round hv h r e.dst.toNat (by omega)
  intro x
  rw [raw_mem, raw_mem]
  constructor
  ·rintro ⟨e, he, rfl⟩
   obtain ⟨hm, hs⟩ := List.mem_filter.1 he
   have hs' : e.src = (i : Int) := eq_of_beq hs
   refine ⟨mvE o e, List.mem_filter.2 ⟨h.edges.mem_iff.1 (List.mem_map.2 ⟨e, hm, rfl⟩), ?_⟩, ?_⟩
   ·rw [beq_iff_eq]
    show o.getD e.src.toNat 0 = _
    rw [hs', Int.toNat_natCast]
    omega
   ·rw [← hp e hm]
    rfl
  ·rintro ⟨f, hf, rfl⟩
   obtain ⟨hm, hs⟩ := List.mem_filter.1 hf
   have hs' : f.src = ((o.getD i 0).toNat : Int) := eq_of_beq hs
   obtain ⟨e, he, rfl⟩ := List.mem_map.1 (h.edges.mem_iff.2 hm)
   have hk := edge_of_mem hv he
   have h5 := hk.s0
   have h6 := hk.s1
   have hsrc : e.src.toNat = i := by
    refine h.ord.inj (by omega) hi ?_
    have : (mvE o e).src = o.getD e.src.toNat 0 := rfl
    omega
   refine ⟨e, List.mem_filter.2 ⟨he, by rw [beq_iff_eq]; omega⟩, ?_⟩
   rw [hp e he]
   rfl

end Go.Proofs.YtifoinannefcpaaGreatDoor

namespace Go.Proofs.YtifoinannefcpaaGreatDoor
open Go Go.RowKit


/-- All that has the first one's leader gets the second one's. -/
def joinO (ld : List Int) (p : Int × Int) : List Int := ld.map fun x => if x = ld.getD p.1.toNat 0 then ld.getD p.2.toNat 0 else x
def leadO (n : Nat) (ps : List (Int × Int)) : List Int := ps.foldl joinO ((List.range n).map fun (i : Nat) => (i : Int))
theorem leadO_snoc (n : Nat) (ps : List (Int × Int)) (p : Int × Int) : leadO n (ps ++ [p]) = joinO (leadO n ps) p := by unfold leadO; rw [List.foldl_append]; rfl
theorem joinO_len (ld : List Int) (p : Int × Int) : (joinO ld p).length = ld.length := by simp [joinO]
theorem leadO_len (n : Nat) : ∀ ps : List (Int × Int), (leadO n ps).length = n := by
 intro ps
 unfold leadO
 have : ∀ (qs : List (Int × Int)) (ld : List Int), (qs.foldl joinO ld).length = ld.length := by
  intro qs
  induction qs with
  | nil => intro ld; rfl
  | cons p qs ih => intro ld; rw [List.foldl_cons, ih, joinO_len]
 rw [this]
 simp
/-- What the leaders keep. -/
structure LeadOk (n : Nat) (q : Int → Int) (ld : List Int) : Prop where
 len : ld.length = n
 low : ∀ i, i < n → 0 ≤ ld.getD i 0 ∧ ld.getD i 0 < (n : Int)
 same : ∀ i, i < n → q (ld.getD i 0) = q i
theorem LeadOk.join {n : Nat} {q : Int → Int} {ld : List Int} (h : LeadOk n q ld) {p : Int × Int} (h0 : 0 ≤ p.1 ∧ p.1 < (n : Int)) (h1 : 0 ≤ p.2 ∧ p.2 < (n : Int)) (hq : q p.1 = q p.2) : LeadOk n q (joinO ld p) := by
 have ha := h.low p.1.toNat (by omega)
 have hb := h.low p.2.toNat (by omega)
 have ea := h.same p.1.toNat (by omega)
 have eb := h.same p.2.toNat (by omega)
 rw [show ((p.1.toNat : Nat) : Int) = p.1 from by omega] at ea
 rw [show ((p.2.toNat : Nat) : Int) = p.2 from by omega] at eb
 have hat : ∀ i, i < n → (joinO ld p).getD i 0 = if ld.getD i 0 = ld.getD p.1.toNat 0 then ld.getD p.2.toNat 0 else ld.getD i 0 := fun i hi => by
  have hl : i < ld.length := by rw [h.len]; exact hi
  rw [getD_eq (by rw [joinO_len]; exact hl), getD_eq hl]
  unfold joinO
  rw [List.getElem_map]
 refine ⟨by rw [joinO_len]; exact h.len, fun i hi => ?_, fun i hi => ?_⟩
 ·rw [hat i hi]
  split
  ·exact hb
  ·exact h.low i hi
 ·rw [hat i hi]
  split
  ·next e =>
   rw [eb, ← hq, ← ea, ← e]
   exact h.same i hi
  ·exact h.same i hi
theorem LeadOk.start (n : Nat) (q : Int → Int) : LeadOk n q ((List.range n).map fun (i : Nat) => (i : Int)) := by
 have hat : ∀ i, i < n → ((List.range n).map fun (i : Nat) => (i : Int)).getD i 0 = (i : Int) := fun i hi => by
  rw [getD_eq (by simpa using hi), List.getElem_map, List.getElem_range]
 refine ⟨by simp, fun i hi => ?_, fun i hi => ?_⟩
 ·rw [hat i hi]; omega
 ·rw [hat i hi]
theorem lead_ok {n : Nat} {q : Int → Int} (ps : List (Int × Int)) (h : ∀ p ∈ ps, (0 ≤ p.1 ∧ p.1 < (n : Int)) ∧ (0 ≤ p.2 ∧ p.2 < (n : Int)) ∧ q p.1 = q p.2) : LeadOk n q (leadO n ps) := by
 unfold leadO
 have : ∀ (qs : List (Int × Int)) (ld : List Int), LeadOk n q ld → (∀ p ∈ qs, (0 ≤ p.1 ∧ p.1 < (n : Int)) ∧ (0 ≤ p.2 ∧ p.2 < (n : Int)) ∧ q p.1 = q p.2) → LeadOk n q (qs.foldl joinO ld) := by
  intro qs
  induction qs with
  | nil => intro ld hl _; exact hl
  | cons p qs ih =>
   intro ld hl hq
   rw [List.foldl_cons]
   obtain ⟨h0, h1, h2⟩ := hq p (by simp)
   exact ih _ (hl.join h0 h1 h2) fun r hr => hq r (by simp [hr])
 exact this ps _ (LeadOk.start n q) h
/-- States of one leader have one number. -/
theorem LeadOk.one {n : Nat} {q : Int → Int} {ld : List Int} (h : LeadOk n q ld) {i j : Nat} (hi : i < n) (hj : j < n) (e : ld.getD i 0 = ld.getD j 0) : q i = q j := by
 rw [← h.same i hi, ← h.same j hj, e]

/-- The pairs of the orders: each thing and its image. -/
def pairsO (os : List (List Int)) : List (Int × Int) := os.flatMap fun o => (List.range o.length).map fun (k : Nat) => ((k : Int), o.getD k 0)
theorem pairs_round {t : Lts} (hv : Valid t) {os : List (List Int)} (h : ∀ o ∈ os, AutO t o) (r : Nat) : ∀ p ∈ pairsO os, (0 ≤ p.1 ∧ p.1 < (t.states.toNat : Int)) ∧ (0 ≤ p.2 ∧ p.2 < (t.states.toNat : Int)) ∧
  (fun x : Int => (partsG (sgT t) t.states.toNat r).getD x.toNat 0) p.1 = (fun x : Int => (partsG (sgT t) t.states.toNat r).getD x.toNat 0) p.2 := by
 intro p hp
 obtain ⟨o, ho, hm⟩ := List.mem_flatMap.1 hp
 obtain ⟨k, hk, rfl⟩ := List.mem_map.1 hm
 have ha := h o ho
 rw [List.mem_range, ha.ord.len] at hk
 refine ⟨⟨by omega, by omega⟩, ha.ord.at hk, ?_⟩
 have := aut_round hv ha r k hk
 unfold EqG at this
 simpa using this
/-- What the orbits join is joined in every round. -/
theorem orbit_round {t : Lts} (hv : Valid t) {os : List (List Int)} (h : ∀ o ∈ os, AutO t o) (r : Nat) {i j : Nat} (hi : i < t.states.toNat) (hj : j < t.states.toNat) (e : (leadO t.states.toNat (pairsO os)).getD i 0 = (leadO t.states.toNat (pairsO os)).getD j 0) :
  (partsG (sgT t) t.states.toNat r).getD i 0 = (partsG (sgT t) t.states.toNat r).getD j 0 := by
 have hl := lead_ok (n := t.states.toNat) (q := fun x : Int => (partsG (sgT t) t.states.toNat r).getD x.toNat 0) (pairsO os) (pairs_round hv h r)
 have := hl.one hi hj e
 simpa using this

end Go.Proofs.YtifoinannefcpaaGreatDoor

namespace Go.Proofs.YtifoinannefcpaaGreatDoor
open Go Go.RowKit


theorem edge_total (a b : Edge) : edgeLess a b = true ∨ a = b ∨ edgeLess b a = true := by
 cases h1 : edgeLess a b with
 | true => exact .inl rfl
 | false =>
  cases h2 : edgeLess b a with
  | true => exact .inr (.inr rfl)
  | false => exact .inr (.inl (edgeLess_tri a b h1 h2))
theorem sort_moved {ms es : List Edge} (hr : RiseE es) : sortEs ms = es ↔ ms.Perm es := by
 have h1 : (sortEs ms).Perm ms := List.mergeSort_perm _ _
 constructor
 ·intro h
  rw [← h]
  exact h1.symm
 ·intro h
  have hp : (sortEs ms).Perm es := h1.trans h
  have hnd : es.Nodup := by
   rw [List.nodup_iff_pairwise_ne]
   exact hr.imp fun {a b} h e => by rw [e, edgeLess_irrefl] at h; cases h
  have hnd2 : (sortEs ms).Nodup := hp.nodup_iff.2 hnd
  have hs : (sortEs ms).Pairwise fun x y => (!edgeLess y x) = true := by
   unfold sortEs
   refine List.pairwise_mergeSort (le := fun x y => !edgeLess y x) ?_ ?_ _
   ·intro a b c h1 h2
    cases h3 : edgeLess c a with
    | false => rfl
    | true =>
     exfalso
     simp only [Bool.not_eq_true'] at h1 h2
     rcases edge_total b a with e | e | e
     ·rw [e] at h1; cases h1
     ·subst e; rw [h3] at h2; cases h2
     ·have := edgeLess_trans c a b h3 e
      rw [this] at h2
      cases h2
   ·intro a b
    cases h3 : edgeLess b a with
    | false => simp
    | true =>
     cases h4 : edgeLess a b with
     | false => simp
     | true => have := edgeLess_trans a b a h4 h3; rw [edgeLess_irrefl] at this; cases this
  have hr2 : RiseE (sortEs ms) := by
   unfold RiseE
   rw [List.nodup_iff_pairwise_ne] at hnd2
   refine (hs.and hnd2).imp fun {a b} h => ?_
   rcases edge_total a b with e | e | e
   ·exact e
   ·exact absurd e h.2
   ·have := h.1; rw [e] at this; cases this
  exact rise_same hr2 hr fun x => hp.mem_iff

end Go.Proofs.YtifoinannefcpaaGreatDoor

namespace Go.Proofs.YtifoinannefcpaaGreatDoor
open Go Go.RowKit Go.ChangeMaps Go.MapKept
open Go.Maps (Keyed)

/-- The block of a map whose i-th key leads to i. -/
def NumMap (q : IntKind) (w : World) (b : Nat) (ks : List Value) : Prop := w.heap[b]? = some (.map (ks.mapIdx fun i k => (⟨k, .int q i, i⟩ : MapEntry)).toArray ks.length)

theorem NumMap.made (q : IntKind) (w : World) : NumMap q (w.alloc (.map #[] 0)) w.heap.size [] := (MapKept.heap_alloc w _).1

theorem NumMap.kept {q : IntKind} {w w' : World} {b : Nat} {ks : List Value} {row : Option Nat} (h : NumMap q w b ks) (hg : w.grownBy w' row) (hne : some b ≠ row) : NumMap q w' b ks :=
 (hg.block b (Array.getElem?_eq_some_iff.1 h).1 hne).trans h

theorem NumMap.below {q : IntKind} {w w' : World} {b : Nat} {ks : List Value} (h : NumMap q w b ks) (hb : Below w.heap.size w w') : NumMap q w' b ks :=
 (hb.block b (Array.getElem?_eq_some_iff.1 h).1).trans h

theorem entry_key {q : IntKind} {ks : List Value} {e : MapEntry} (h : e ∈ (ks.mapIdx fun i k => (⟨k, .int q i, i⟩ : MapEntry)).toArray.toList) : e.key ∈ ks := by
 simp only [List.mem_mapIdx] at h
 obtain ⟨i, hi, rfl⟩ := h
 exact List.getElem_mem hi

theorem nodup_get {α : Type} {l : List α} (hd : l.Nodup) {i j : Nat} (hi : i < l.length) (hj : j < l.length) (h : l[i] = l[j]) : i = j := by
 have hp := List.pairwise_iff_getElem.1 hd
 rcases Nat.lt_trichotomy i j with h1 | h1 | h1
 ·exact absurd h (hp i j hi hj h1)
 ·exact h1
 ·exact absurd h.symm (hp j i hj hi h1)

section
variable {P : Program} {k t e : TypeId} {q : IntKind} {w : World} {b : Nat} {ks : List Value}

theorem NumMap.found (h : NumMap q w b ks) (K : Keyed P k) (ht : P.underlying t = some (.map k e)) (hks : ∀ v ∈ ks, ∃ l, keyOf P k v = some l) (hd : ks.Nodup) {i : Nat} (hi : i < ks.length) :
  (Instr.lookup t (.map (some b)) ks[i] true).run P w = .ok (.tuple #[.int q i, .bool true]) w := by
 obtain ⟨kl, hkey⟩ := hks _ (List.getElem_mem hi)
 rcases K.find w hkey (ks.mapIdx fun i k => (⟨k, .int q i, i⟩ : MapEntry)).toArray.toList (fun x hx => hks _ (entry_key hx)) with ⟨_, h2⟩ | ⟨j, e0, h1, h2, h3⟩
 ·exfalso
  refine h2 ⟨ks[i], .int q i, i⟩ ?_ rfl
  simp only [List.mem_mapIdx]
  exact ⟨i, hi, rfl⟩
 ·simp only [List.getElem?_mapIdx, Option.map_eq_some_iff] at h2
  obtain ⟨k', hk', rfl⟩ := h2
  obtain ⟨hj, hk'⟩ := List.getElem?_eq_some_iff.1 hk'
  simp only at h3
  have e1 : j = i := nodup_get hd hj hi (hk'.trans h3)
  subst e1
  have hb : w.heap[b]? = some (.map (ks.mapIdx fun i k => (⟨k, .int q i, i⟩ : MapEntry)).toArray ks.length) := h
  simp only at h1
  simp [Instr.lookup, run_underlying ht, MapKept.run_getObj_map hb, K.check w _ hkey, h1, Result.andThen]

theorem NumMap.missing (h : NumMap q w b ks) (K : Keyed P k) (ht : P.underlying t = some (.map k e)) (hks : ∀ v ∈ ks, ∃ l, keyOf P k v = some l) (hz : (zeroValue e).run P w = .ok (.int q 0) w) {key : Value} {kl : Lit} (hkey : keyOf P k key = some kl) (hn : key ∉ ks) :
  (Instr.lookup t (.map (some b)) key true).run P w = .ok (.tuple #[.int q 0, .bool false]) w := by
 rcases K.find w hkey (ks.mapIdx fun i k => (⟨k, .int q i, i⟩ : MapEntry)).toArray.toList (fun x hx => hks _ (entry_key hx)) with ⟨h1, _⟩ | ⟨j, e0, _, h2, h3⟩
 ·have hb : w.heap[b]? = some (.map (ks.mapIdx fun i k => (⟨k, .int q i, i⟩ : MapEntry)).toArray ks.length) := h
  simp only at h1
  simp [Instr.lookup, run_underlying ht, MapKept.run_getObj_map hb, K.check w _ hkey, h1, hz, Result.andThen]
 ·exact absurd (h3 ▸ entry_key (List.mem_of_getElem? h2)) hn

theorem NumMap.store (h : NumMap q w b ks) (K : Keyed P k) (ht : P.underlying t = some (.map k e)) (hks : ∀ v ∈ ks, ∃ l, keyOf P k v = some l) {key : Value} {kl : Lit} (hkey : keyOf P k key = some kl) (hn : key ∉ ks) (hroom : ks.length < maxLen) :
  ∃ w', (Instr.mapUpdate t (.map (some b)) key (.int q ks.length)).run P w = .ok () w' ∧ NumMap q w' b (ks ++ [key]) ∧ w.grownBy w' (some b) := by
 have hb : w.heap[b]? = some (.map (ks.mapIdx fun i k => (⟨k, .int q i, i⟩ : MapEntry)).toArray ks.length) := h
 have e1 : ((ks ++ [key]).mapIdx fun i k => (⟨k, .int q i, i⟩ : MapEntry)).toArray = (ks.mapIdx fun i k => (⟨k, .int q i, i⟩ : MapEntry)).toArray.push ⟨key, .int q ks.length, ks.length⟩ := by
  rw [List.mapIdx_append]
  simp
 rcases K.find w hkey (ks.mapIdx fun i k => (⟨k, .int q i, i⟩ : MapEntry)).toArray.toList (fun x hx => hks _ (entry_key hx)) with ⟨h1, _⟩ | ⟨j, e0, _, h2, h3⟩
 ·refine ⟨setBlock w b (.map ((ks.mapIdx fun i k => (⟨k, .int q i, i⟩ : MapEntry)).toArray.push ⟨key, .int q ks.length, ks.length⟩) (ks.length + 1)), ?_, ?_, ?_⟩
  ·simp only at h1
   have hr : ks.length < 9223372036854775807 := hroom
   simp [Instr.mapUpdate, run_underlying ht, MapKept.run_getObj_map hb, K.check w false hkey, h1, MapKept.run_setObj_map _ hb, Result.andThen, setBlock]
  ·unfold NumMap
   rw [e1, List.length_append, List.length_singleton]
   exact heap_setBlock_same hb _
  ·exact ⟨rfl, rfl, rfl, by simp [setBlock], fun i _ hi => heap_setBlock_other hb _ (fun e => hi (by rw [e]))⟩
 ·exact absurd (h3 ▸ entry_key (List.mem_of_getElem? h2)) hn

end
end Go.Proofs.YtifoinannefcpaaGreatDoor

namespace Go.Proofs.YtifoinannefcpaaGreatDoor
open Go Go.RowKit


theorem firsts_map {f : Int → Int} : ∀ (l : List Int), (∀ x ∈ l, ∀ y ∈ l, f x = f y → x = y) → firsts (l.map f) = (firsts l).map f := by
 have key : ∀ (m acc : List Int), (∀ x, x ∈ acc ∨ x ∈ m → ∀ y, y ∈ acc ∨ y ∈ m → f x = f y → x = y) → (m.map f).foldl addNew (acc.map f) = (m.foldl addNew acc).map f := by
  intro m
  induction m with
  | nil => intro acc _; rfl
  | cons x m ih =>
   intro acc h
   rw [List.map_cons, List.foldl_cons, List.foldl_cons]
   have e : addNew (acc.map f) (f x) = (addNew acc x).map f := by
    unfold addNew
    by_cases hx : x ∈ acc
    ·rw [if_pos hx, if_pos (List.mem_map.2 ⟨x, hx, rfl⟩)]
    ·rw [if_neg hx, if_neg, List.map_append]
     ·rfl
     ·intro k
      obtain ⟨y, hy, hxy⟩ := List.mem_map.1 k
      exact hx (h y (.inl hy) x (.inr (List.mem_cons_self ..)) hxy ▸ hy)
   rw [e]
   refine ih _ fun a ha b hb => ?_
   have q : ∀ z, z ∈ addNew acc x ∨ z ∈ m → z ∈ acc ∨ z ∈ x :: m := by
    intro z hz
    unfold addNew at hz
    split at hz
    ·exact hz.elim .inl fun k => .inr (List.mem_cons_of_mem _ k)
    ·rcases hz with k | k
     ·rcases List.mem_append.1 k with k | k
      ·exact .inl k
      ·rw [List.mem_singleton] at k; subst k; exact .inr (List.mem_cons_self ..)
     ·exact .inr (List.mem_cons_of_mem _ k)
   exact h a (q a ha) b (q b hb)
 intro l h
 have := key l [] (fun x hx y hy => h x (hx.elim (fun k => by cases k) id) y (hy.elim (fun k => by cases k) id))
 exact this
theorem fstIx_map {f : Int → Int} : ∀ (l : List Int) (x : Int), (∀ y ∈ l, f y = f x → y = x) → fstIx (l.map f) (f x) = fstIx l x
 | [], _, _ => rfl
 | y :: l, x, h => by
  rw [List.map_cons]
  unfold fstIx
  by_cases e : y = x
  ·rw [if_pos e, if_pos (by rw [e])]
  ·rw [if_neg e, if_neg fun k => e (h y (List.mem_cons_self ..) k), fstIx_map l x fun z hz => h z (List.mem_cons_of_mem _ hz)]
theorem normL_map {f : Int → Int} {l : List Int} (h : ∀ x ∈ l, ∀ y ∈ l, f x = f y → x = y) : normL (l.map f) = normL l := by
 unfold normL
 rw [firsts_map l h, List.map_map]
 refine List.map_congr_left fun x hx => ?_
 show ((fstIx ((firsts l).map f) (f x) : Nat) : Int) = _
 rw [fstIx_map _ _ fun y hy => h y ((firsts_mem l y).1 hy) x hx]
theorem normL_norm (l : List Int) : normL (normL l) = normL l := by
 conv => lhs; rw [show normL l = l.map fun x => (fstIx (firsts l) x : Int) from rfl]
 refine normL_map fun x hx y hy e => ?_
 exact fstIx_inj ((firsts_mem l x).2 hx) ((firsts_mem l y).2 hy) (by omega)
end Go.Proofs.YtifoinannefcpaaGreatDoor

namespace Go.Proofs.YtifoinannefcpaaGreatDoor
open Go Go.RowKit


theorem lead_norm (n : Nat) (ps : List (Int × Int)) : normL (normL (leadO n ps)) = normL (leadO n ps) := normL_norm _
theorem lev_norm (t : Lts) : ∀ r, normL (lev t r) = lev t r := by
 intro r
 unfold lev
 cases r with
 | zero => exact normL_zeros _
 | succ r =>
  show normL (blocksL _) = blocksL _
  unfold blocksL
  exact normL_norm _
/-- What RefinesPartition asks. -/
def RefO (p q : List Int) : Prop := ∀ i j (hi : i < p.length) (hj : j < p.length), p[i] = p[j] → q.getD i 0 = q.getD j 0
theorem aut_refines {t : Lts} (hv : Valid t) {os : List (List Int)} (h : ∀ o ∈ os, AutO t o) (r : Nat) : RefO (normL (leadO t.states.toNat (pairsO os))) (lev t r) := by
 intro i j hi hj e
 have hn : (leadO t.states.toNat (pairsO os)).length = t.states.toNat := leadO_len _ _
 rw [normL_len] at hi hj
 have h1 := (normL_same hi hj).1 e
 refine orbit_round hv h r (by omega) (by omega) ?_
 rw [getD_eq hi, getD_eq hj]
 exact h1
/-- The automorphisms among all orders, as they are listed. -/
def autsL (t : Lts) : List (List Int) := (ordsL t.states.toNat t.states.toNat).filter fun o => decide (o.getD t.initial.toNat 0 = t.initial) && decide (sortEs (t.edges.map (mvE o)) = t.edges)
theorem auts_iff {t : Lts} (hr : RiseE t.edges) {o : List Int} : o ∈ autsL t ↔ AutO t o := by
 unfold autsL
 rw [List.mem_filter, ords_iff, Bool.and_eq_true, decide_eq_true_eq, decide_eq_true_eq, sort_moved hr]
 exact ⟨fun h => ⟨h.1, h.2.1, h.2.2⟩, fun h => ⟨h.ord, h.init, h.edges⟩⟩
theorem auts_some {t : Lts} (hv : Valid t) (hr : RiseE t.edges) : 0 < (autsL t).length := List.length_pos_of_mem ((auts_iff hr).2 (AutO.id hv))
theorem auts_comp {t : Lts} (hv : Valid t) (hr : RiseE t.edges) {a b : List Int} (ha : a ∈ autsL t) (hb : b ∈ autsL t) : compO t.states.toNat a b ∈ autsL t := (auts_iff hr).2 (((auts_iff hr).1 ha).comp hv ((auts_iff hr).1 hb))

end Go.Proofs.YtifoinannefcpaaGreatDoor
