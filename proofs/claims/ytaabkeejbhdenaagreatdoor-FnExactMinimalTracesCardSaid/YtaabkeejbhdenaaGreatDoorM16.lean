/-
  Partitions, plainly: numbers by first sight, and the refinement of the states of a deterministic system.
  The least deterministic system, plainly: the search over the blocks of a partition.
  The reference's place of a text among texts.
  The reference's place of a number among numbers.
  A step by a label's number is the edge with it. Plain.
  Plain notions for a row that is written over in place: what is kept so far, what is still to be looked at.
  A rising list of edges with one edge more: plain, and how it lies in place.
-/
import Derived.Test.YtaabkeejbhdenaaGreatDoorM1
import Derived.Test.YtaabkeejbhdenaaGreatDoorM15
import Derived.Test.YtaabkeejbhdenaaGreatDoorM13
import Derived.Lib.SliceRun
import Derived.Lib.LazyBuf
import Derived.Test.YtaabkeejbhdenaaGreatDoorM10
import Derived.Test.YtaabkeejbhdenaaGreatDoorM5
namespace Go.Proofs.YtaabkeejbhdenaaGreatDoor
open Go Go.RowKit

/-- The first place of an item, or the length. -/
def fstIx {α : Type} [DecidableEq α] : List α → α → Nat
 | [], _ => 0
 | y :: l, x => if y = x then 0 else fstIx l x + 1
theorem fstIx_le {α : Type} [DecidableEq α] : ∀ (l : List α) (x : α), fstIx l x ≤ l.length
 | [], _ => Nat.le_refl _
 | y :: l, x => by
  unfold fstIx
  split
  ·exact Nat.zero_le _
  ·exact Nat.succ_le_succ (fstIx_le l x)
theorem fstIx_lt {α : Type} [DecidableEq α] : ∀ {l : List α} {x : α}, x ∈ l → fstIx l x < l.length
 | [], _, h => by cases h
 | y :: l, x, h => by
  unfold fstIx
  split
  ·exact Nat.succ_pos _
  ·next hn =>
   rcases List.mem_cons.1 h with e | e
   ·exact absurd e.symm hn
   ·exact Nat.succ_lt_succ (fstIx_lt e)
theorem fstIx_not {α : Type} [DecidableEq α] : ∀ {l : List α} {x : α}, x ∉ l → fstIx l x = l.length
 | [], _, _ => rfl
 | y :: l, x, h => by
  have h1 : ¬ y = x := fun e => h (by rw [e]; exact List.mem_cons_self ..)
  unfold fstIx
  rw [if_neg h1, fstIx_not fun k => h (List.mem_cons_of_mem _ k)]
  rfl
theorem fstIx_get {α : Type} [DecidableEq α] : ∀ {l : List α} {x : α}, x ∈ l → l[fstIx l x]? = some x
 | [], _, h => by cases h
 | y :: l, x, h => by
  unfold fstIx
  by_cases e : y = x
  ·rw [if_pos e, e]; rfl
  ·rw [if_neg e]
   rcases List.mem_cons.1 h with k | k
   ·exact absurd k.symm e
   ·exact fstIx_get k
theorem fstIx_first {α : Type} [DecidableEq α] : ∀ {l : List α} {x : α} {j : Nat}, j < fstIx l x → l[j]? ≠ some x
 | [], _, j, h => by simp
 | y :: l, x, j, h => by
  unfold fstIx at h
  by_cases e : y = x
  ·rw [if_pos e] at h; cases h
  ·rw [if_neg e] at h
   cases j with
   | zero => simpa using e
   | succ j => exact fstIx_first (l := l) (Nat.lt_of_succ_lt_succ h)
theorem fstIx_eq {α : Type} [DecidableEq α] {l : List α} {x : α} {i : Nat} (h : l[i]? = some x) (hf : ∀ j, j < i → l[j]? ≠ some x) : fstIx l x = i := by
 have h1 := fstIx_get (List.mem_of_getElem? h)
 rcases Nat.lt_trichotomy (fstIx l x) i with k | k | k
 ·exact absurd h1 (hf _ k)
 ·exact k
 ·exact absurd h (fstIx_first k)
theorem fstIx_append {α : Type} [DecidableEq α] {l m : List α} {x : α} (h : x ∈ l) : fstIx (l ++ m) x = fstIx l x := by
 have h1 := fstIx_lt h
 refine fstIx_eq ?_ fun j hj => ?_
 ·rw [List.getElem?_append_left h1]; exact fstIx_get h
 ·rw [List.getElem?_append_left (by omega)]; exact fstIx_first hj
theorem fstIx_inj {α : Type} [DecidableEq α] {l : List α} {x y : α} (hx : x ∈ l) (hy : y ∈ l) (h : fstIx l x = fstIx l y) : x = y := by
 have h1 := fstIx_get hx
 rw [h, fstIx_get hy] at h1
 exact (Option.some.inj h1).symm

/-- The first places of the items. -/
def firstIx {α : Type} [DecidableEq α] (l : List α) : List Int := l.map fun x => (fstIx l x : Int)
theorem firstIx_len {α : Type} [DecidableEq α] (l : List α) : (firstIx l).length = l.length := by simp [firstIx]
theorem firstIx_at {α : Type} [DecidableEq α] {l : List α} {i : Nat} (h : i < l.length) : (firstIx l)[i]? = some (fstIx l l[i] : Int) := by
 unfold firstIx; rw [List.getElem?_map, List.getElem?_eq_getElem h]; rfl
theorem firstIx_same {α β : Type} [DecidableEq α] [DecidableEq β] {l : List α} {m : List β} (hn : l.length = m.length) (h : ∀ i j (hi : i < l.length) (hj : j < l.length), l[i] = l[j] ↔ m[i]'(by omega) = m[j]'(by omega)) : firstIx l = firstIx m := by
 refine List.ext_getElem? fun i => ?_
 by_cases hi : i < l.length
 ·rw [firstIx_at hi, firstIx_at (show i < m.length by omega)]
  have h1 := fstIx_get (List.getElem_mem hi)
  have hlt := fstIx_lt (List.getElem_mem hi)
  have e : fstIx m (m[i]'(by omega)) = fstIx l l[i] := by
   refine fstIx_eq ?_ fun j hj hk => ?_
   ·rw [List.getElem?_eq_getElem (show fstIx l l[i] < m.length by omega)]
    rw [List.getElem?_eq_getElem hlt] at h1
    exact congrArg some ((h _ _ hlt hi).1 (Option.some.inj h1))
   ·have hj2 : j < l.length := by omega
    rw [List.getElem?_eq_getElem (show j < m.length by omega)] at hk
    have := (h _ _ hj2 hi).2 (Option.some.inj hk)
    exact fstIx_first hj (by rw [List.getElem?_eq_getElem hj2, this])
  rw [e]
 ·rw [List.getElem?_eq_none (by rw [firstIx_len]; omega), List.getElem?_eq_none (by rw [firstIx_len]; omega)]

/-- The items in the order of their first sight. -/
def addNew (acc : List Int) (x : Int) : List Int := if x ∈ acc then acc else acc ++ [x]
def firsts (l : List Int) : List Int := l.foldl addNew []
theorem firsts_snoc (l : List Int) (x : Int) : firsts (l ++ [x]) = addNew (firsts l) x := by unfold firsts; rw [List.foldl_append]; rfl
theorem fold_grows : ∀ (m acc : List Int), ∃ t, m.foldl addNew acc = acc ++ t
 | [], acc => ⟨[], by simp⟩
 | x :: m, acc => by
  obtain ⟨t, ht⟩ := fold_grows m (addNew acc x)
  have : ∃ s, addNew acc x = acc ++ s := by
   unfold addNew
   by_cases h : x ∈ acc
   ·rw [if_pos h]; exact ⟨[], by simp⟩
   ·rw [if_neg h]; exact ⟨[x], rfl⟩
  obtain ⟨s, hs⟩ := this
  refine ⟨s ++ t, ?_⟩
  rw [List.foldl_cons, ht, hs, List.append_assoc]
theorem firsts_append (l m : List Int) : ∃ t, firsts (l ++ m) = firsts l ++ t := by
 unfold firsts; rw [List.foldl_append]; exact fold_grows m _
theorem firsts_mem : ∀ (l : List Int) (x : Int), x ∈ firsts l ↔ x ∈ l := by
 have h : ∀ (m acc : List Int) (x : Int), x ∈ m.foldl addNew acc ↔ x ∈ acc ∨ x ∈ m := by
  intro m
  induction m with
  | nil => intro acc x; simp
  | cons y m ih =>
   intro acc x
   rw [List.foldl_cons, ih]
   have : x ∈ addNew acc y ↔ x ∈ acc ∨ x = y := by
    unfold addNew
    by_cases h : y ∈ acc
    ·rw [if_pos h]
     exact ⟨.inl, fun k => k.elim id fun e => e ▸ h⟩
    ·rw [if_neg h, List.mem_append, List.mem_singleton]
   rw [this, List.mem_cons, or_assoc]
 intro l x
 unfold firsts
 rw [h]
 simp
theorem firsts_len : ∀ (l : List Int), (firsts l).length ≤ l.length := by
 have h : ∀ (m acc : List Int), (m.foldl addNew acc).length ≤ acc.length + m.length := by
  intro m
  induction m with
  | nil => intro acc; simp
  | cons y m ih =>
   intro acc
   rw [List.foldl_cons]
   refine Nat.le_trans (ih _) ?_
   have : (addNew acc y).length ≤ acc.length + 1 := by
    unfold addNew
    by_cases h : y ∈ acc
    ·rw [if_pos h]; omega
    ·rw [if_neg h]; simp
   rw [List.length_cons]; omega
 intro l
 have := h l []
 unfold firsts
 simpa using this
/-- Numbers by first sight. -/
def normL (l : List Int) : List Int := l.map fun x => (fstIx (firsts l) x : Int)
theorem normL_len (l : List Int) : (normL l).length = l.length := by simp [normL]
theorem normL_get {l : List Int} {i : Nat} (h : i < l.length) : (normL l)[i]? = some (fstIx (firsts l) l[i] : Int) := by
 unfold normL; rw [List.getElem?_map, List.getElem?_eq_getElem h]; rfl
theorem normL_at {l : List Int} {i : Nat} (h : i < l.length) : (normL l)[i]? = some (fstIx (firsts (l.take i)) l[i] : Int) := by
 rw [normL_get h]
 have e : l = (l.take i ++ [l[i]]) ++ l.drop (i + 1) := by
  rw [List.append_assoc, List.singleton_append, ← List.drop_eq_getElem_cons h, List.take_append_drop]
 obtain ⟨t, ht⟩ := firsts_append (l.take i ++ [l[i]]) (l.drop (i + 1))
 rw [← e] at ht
 have hm : l[i] ∈ firsts (l.take i ++ [l[i]]) := (firsts_mem _ _).2 (List.mem_append.2 (.inr (List.mem_singleton.2 rfl)))
 rw [ht, fstIx_append hm, firsts_snoc]
 unfold addNew
 by_cases hx : l[i] ∈ firsts (l.take i)
 ·rw [if_pos hx]
 ·rw [if_neg hx, fstIx_not hx]
  congr 2
  refine fstIx_eq ?_ fun j hj hk => ?_
  ·simp
  ·rw [List.getElem?_append_left hj] at hk
   exact hx (List.mem_of_getElem? hk)
theorem normL_range {l : List Int} {x : Int} (h : x ∈ normL l) : 0 ≤ x ∧ x < (l.length : Int) := by
 obtain ⟨y, hy, rfl⟩ := List.mem_map.1 h
 have h1 := fstIx_lt ((firsts_mem l y).2 hy)
 have h2 := firsts_len l
 omega
theorem normL_same {l : List Int} {i j : Nat} (hi : i < l.length) (hj : j < l.length) : (normL l)[i]'(by rw [normL_len]; exact hi) = (normL l)[j]'(by rw [normL_len]; exact hj) ↔ l[i] = l[j] := by
 have h1 := normL_get hi
 have h2 := normL_get hj
 rw [List.getElem?_eq_getElem (by rw [normL_len]; exact hi)] at h1
 rw [List.getElem?_eq_getElem (by rw [normL_len]; exact hj)] at h2
 rw [Option.some.inj h1, Option.some.inj h2]
 constructor
 ·intro h
  exact fstIx_inj ((firsts_mem _ _).2 (List.getElem_mem hi)) ((firsts_mem _ _).2 (List.getElem_mem hj)) (by omega)
 ·intro h; rw [h]
theorem firstIx_pat {α : Type} [DecidableEq α] {l : List α} {i j : Nat} (hi : i < l.length) (hj : j < l.length) : (firstIx l)[i]'(by rw [firstIx_len]; exact hi) = (firstIx l)[j]'(by rw [firstIx_len]; exact hj) ↔ l[i] = l[j] := by
 have h1 := firstIx_at hi
 have h2 := firstIx_at hj
 rw [List.getElem?_eq_getElem (by rw [firstIx_len]; exact hi)] at h1
 rw [List.getElem?_eq_getElem (by rw [firstIx_len]; exact hj)] at h2
 rw [Option.some.inj h1, Option.some.inj h2]
 constructor
 ·intro h
  exact fstIx_inj (List.getElem_mem hi) (List.getElem_mem hj) (by omega)
 ·intro h; rw [h]
/-- The blocks of equal items. -/
def blocksL {α : Type} [DecidableEq α] (l : List α) : List Int := normL (firstIx l)
theorem blocksL_len {α : Type} [DecidableEq α] (l : List α) : (blocksL l).length = l.length := by unfold blocksL; rw [normL_len, firstIx_len]
theorem blocksL_pat {α : Type} [DecidableEq α] {l : List α} {i j : Nat} (hi : i < l.length) (hj : j < l.length) : (blocksL l)[i]'(by rw [blocksL_len]; exact hi) = (blocksL l)[j]'(by rw [blocksL_len]; exact hj) ↔ l[i] = l[j] := by
 unfold blocksL
 rw [normL_same (by rw [firstIx_len]; exact hi) (by rw [firstIx_len]; exact hj), firstIx_pat hi hj]
theorem blocksL_same {α β : Type} [DecidableEq α] [DecidableEq β] {l : List α} {m : List β} (hn : l.length = m.length) (h : ∀ i j (hi : i < l.length) (hj : j < l.length), l[i] = l[j] ↔ m[i]'(by omega) = m[j]'(by omega)) : blocksL l = blocksL m := by
 unfold blocksL; rw [firstIx_same hn h]
theorem blocksL_range {α : Type} [DecidableEq α] {l : List α} {x : Int} (h : x ∈ blocksL l) : 0 ≤ x ∧ x < (l.length : Int) := by
 have := normL_range h
 rwa [firstIx_len] at this
theorem normL_zeros (n : Nat) : normL (List.replicate n (0 : Int)) = List.replicate n 0 := by
 refine List.ext_getElem? fun i => ?_
 by_cases hi : i < n
 ·rw [normL_at (by simpa using hi)]
  rw [List.getElem?_replicate, if_pos hi]
  congr 1
  have : ∀ m : List Int, (∀ x ∈ m, x = 0) → fstIx (firsts m) 0 = 0 := fun m hm => by
   cases h : firsts m with
   | nil => rfl
   | cons y t =>
    have : y = 0 := hm y ((firsts_mem m y).1 (by rw [h]; exact List.mem_cons_self ..))
    unfold fstIx
    rw [if_pos this]
  rw [List.getElem_replicate, this]
  ·rfl
  ·intro x hx
   exact (List.mem_replicate.1 (List.mem_of_mem_take hx)).2
 ·rw [List.getElem?_eq_none (by rw [normL_len]; simpa using hi), List.getElem?_eq_none (by simpa using hi)]

/-- What a state's moves lead to, by blocks. -/
def blkOf (go : Nat → Nat → Int) (m : Nat) (p : List Int) (i : Nat) : List Int := (List.range m).map fun k => if go i k < 0 then -1 else p.getD (go i k).toNat 0
def refStep (go : Nat → Nat → Int) (n m : Nat) (p : List Int) : List Int := blocksL ((List.range n).map (blkOf go m p))
def implStep (go : Nat → Nat → Int) (n m : Nat) (p : List Int) : List Int := blocksL ((List.range n).map fun i => p.getD i 0 :: blkOf go m p i)
/-- The partitions, round by round. -/
def partsR (go : Nat → Nat → Int) (n m : Nat) : Nat → List Int
 | 0 => List.replicate n 0
 | r + 1 => refStep go n m (partsR go n m r)
theorem partsR_len (go : Nat → Nat → Int) (n m : Nat) : ∀ r, (partsR go n m r).length = n
 | 0 => by simp [partsR]
 | r + 1 => by show (refStep _ _ _ _).length = n; unfold refStep; rw [blocksL_len]; simp
theorem partsR_range (go : Nat → Nat → Int) {n m : Nat} : ∀ (r : Nat) {x : Int}, x ∈ partsR go n m r → 0 ≤ x ∧ x < (n : Int)
 | 0, x, h => by
  have h1 : n ≠ 0 ∧ x = 0 := by simpa [partsR] using h
  omega
 | r + 1, x, h => by
  have h1 := blocksL_range (show x ∈ blocksL _ from h)
  simpa using h1
theorem getD_eq {p : List Int} {i : Nat} (h : i < p.length) : p.getD i 0 = p[i] := by rw [List.getD_eq_getElem?_getD, List.getElem?_eq_getElem h]; rfl
theorem partsR_getD (go : Nat → Nat → Int) {n m : Nat} (r : Nat) {i : Nat} (h : i < n) : 0 ≤ (partsR go n m r).getD i 0 ∧ (partsR go n m r).getD i 0 < (n : Int) := by
 rw [getD_eq (by rw [partsR_len]; exact h)]
 exact partsR_range go r (List.getElem_mem _)
/-- Two states in one block. -/
def EqR (go : Nat → Nat → Int) (n m r i j : Nat) : Prop := (partsR go n m r).getD i 0 = (partsR go n m r).getD j 0
theorem eqR_succ {go : Nat → Nat → Int} {n m r i j : Nat} (hi : i < n) (hj : j < n) : EqR go n m (r + 1) i j ↔ blkOf go m (partsR go n m r) i = blkOf go m (partsR go n m r) j := by
 unfold EqR
 rw [getD_eq (by rw [partsR_len]; exact hi), getD_eq (by rw [partsR_len]; exact hj)]
 have h := blocksL_pat (l := (List.range n).map (blkOf go m (partsR go n m r))) (i := i) (j := j) (by simpa using hi) (by simpa using hj)
 rw [List.getElem_map, List.getElem_map, List.getElem_range, List.getElem_range] at h
 exact h
theorem blkOf_iff {go : Nat → Nat → Int} {m : Nat} {p : List Int} {i j : Nat} : blkOf go m p i = blkOf go m p j ↔ ∀ k, k < m → (if go i k < 0 then (-1 : Int) else p.getD (go i k).toNat 0) = (if go j k < 0 then -1 else p.getD (go j k).toNat 0) := by
 unfold blkOf
 constructor
 ·intro h k hk
  have h1 := congrArg (fun l => l[k]?) h
  simpa [hk] using h1
 ·intro h
  refine List.map_congr_left fun k hk => h k (List.mem_range.1 hk)
theorem eqR_mono {go : Nat → Nat → Int} {n m : Nat} (hgo : ∀ i k, i < n → k < m → go i k < (n : Int)) : ∀ r {i j : Nat}, i < n → j < n → EqR go n m (r + 1) i j → EqR go n m r i j
 | 0, i, j, hi, hj, _ => by
  unfold EqR partsR
  rw [List.getD_eq_getElem?_getD, List.getD_eq_getElem?_getD, List.getElem?_replicate, List.getElem?_replicate, if_pos hi, if_pos hj]
 | r + 1, i, j, hi, hj, h => by
  rw [eqR_succ hi hj, blkOf_iff] at h
  rw [eqR_succ hi hj, blkOf_iff]
  intro k hk
  have h1 := h k hk
  have g1 := hgo i k hi hk
  have g2 := hgo j k hj hk
  by_cases a : go i k < 0
  ·by_cases b : go j k < 0
   ·rw [if_pos a, if_pos b]
   ·rw [if_pos a, if_neg b] at h1
    have := (partsR_getD go (n := n) (m := m) (r + 1) (i := (go j k).toNat) (by omega)).1
    omega
  ·by_cases b : go j k < 0
   ·rw [if_neg a, if_pos b] at h1
    have := (partsR_getD go (n := n) (m := m) (r + 1) (i := (go i k).toNat) (by omega)).1
    omega
   ·rw [if_neg a, if_neg b] at h1 ⊢
    exact eqR_mono hgo r (by omega) (by omega) h1
theorem implStep_eq {go : Nat → Nat → Int} {n m : Nat} (hgo : ∀ i k, i < n → k < m → go i k < (n : Int)) (r : Nat) : implStep go n m (partsR go n m r) = partsR go n m (r + 1) := by
 show implStep _ _ _ _ = refStep _ _ _ _
 unfold implStep refStep
 refine blocksL_same (by simp) fun i j hi hj => ?_
 have hi' : i < n := by simpa using hi
 have hj' : j < n := by simpa using hj
 simp only [List.getElem_map, List.getElem_range, List.cons.injEq]
 constructor
 ·exact fun h => h.2
 ·exact fun h => ⟨eqR_mono hgo r hi' hj' ((eqR_succ hi' hj').2 h), h⟩
/-- A partition is fixed by which states are in one block. -/
theorem partsR_pat {go : Nat → Nat → Int} {n m r s : Nat} (h : ∀ i j, i < n → j < n → (EqR go n m r i j ↔ EqR go n m s i j)) : partsR go n m r = partsR go n m s := by
 have key : ∀ r, partsR go n m r = blocksL (partsR go n m r) := fun r => by
  cases r with
  | zero =>
   show List.replicate n (0 : Int) = normL (firstIx (List.replicate n (0 : Int)))
   have : firstIx (List.replicate n (0 : Int)) = List.replicate n 0 := by
    refine List.ext_getElem? fun i => ?_
    by_cases hi : i < n
    ·rw [firstIx_at (by simpa using hi), List.getElem?_replicate, if_pos hi, List.getElem_replicate]
     congr 1
     cases n with
     | zero => omega
     | succ n => rw [List.replicate_succ]; unfold fstIx; rw [if_pos rfl]; rfl
    ·rw [List.getElem?_eq_none (by rw [firstIx_len]; simpa using hi), List.getElem?_eq_none (by simpa using hi)]
   rw [this, normL_zeros]
  | succ r =>
   show blocksL _ = blocksL (blocksL _)
   refine blocksL_same (by rw [blocksL_len]) fun i j hi hj => ?_
   rw [blocksL_pat (by simpa using hi) (by simpa using hj)]
 rw [key r, key s]
 refine blocksL_same (by rw [partsR_len, partsR_len]) fun i j hi hj => ?_
 rw [partsR_len] at hi hj
 have h1 := h i j hi hj
 unfold EqR at h1
 rwa [getD_eq (by rw [partsR_len]; exact hi), getD_eq (by rw [partsR_len]; exact hj), getD_eq (by rw [partsR_len]; exact hi), getD_eq (by rw [partsR_len]; exact hj)] at h1
theorem partsR_stays {go : Nat → Nat → Int} {n m r : Nat} (h : partsR go n m r = partsR go n m (r + 1)) : ∀ d, partsR go n m (r + d) = partsR go n m r
 | 0 => rfl
 | d + 1 => by
  show refStep _ _ _ (partsR go n m (r + d)) = _
  rw [partsR_stays h d]
  exact h.symm
theorem filter_less {p q : Nat → Bool} : ∀ (l : List Nat), (∀ x ∈ l, p x = true → q x = true) → (l.filter p).length ≤ (l.filter q).length
 | [], _ => Nat.le_refl _
 | x :: l, h => by
  have ih := filter_less l fun y hy => h y (List.mem_cons_of_mem _ hy)
  have h0 := h x (List.mem_cons_self ..)
  rw [List.filter_cons, List.filter_cons]
  cases hp : p x
  ·cases hq : q x
   ·exact ih
   ·exact Nat.le_succ_of_le ih
  ·rw [hp] at h0; rw [h0 rfl]; exact Nat.succ_le_succ ih
theorem filter_lt {p q : Nat → Bool} : ∀ (l : List Nat), (∀ x ∈ l, p x = true → q x = true) → (∃ x ∈ l, p x = false ∧ q x = true) → (l.filter p).length < (l.filter q).length
 | [], _, ⟨_, h, _⟩ => by cases h
 | x :: l, h, ⟨y, hy, h1, h2⟩ => by
  have h0 := h x (List.mem_cons_self ..)
  have ht := fun y hy => h y (List.mem_cons_of_mem x hy)
  have il := filter_less l ht
  rw [List.filter_cons, List.filter_cons]
  rcases List.mem_cons.1 hy with e | e
  ·subst e
   rw [h1, h2]
   exact Nat.lt_succ_of_le il
  ·have ih := filter_lt l ht ⟨y, e, h1, h2⟩
   cases hp : p x
   ·cases hq : q x
    ·exact ih
    ·exact Nat.lt_succ_of_lt ih
   ·rw [hp] at h0; rw [h0 rfl]; exact Nat.succ_lt_succ ih
/-- The first state of its block. -/
def isFst (go : Nat → Nat → Int) (n m r i : Nat) : Bool := decide (fstIx (partsR go n m r) ((partsR go n m r).getD i 0) = i)
def cntR (go : Nat → Nat → Int) (n m r : Nat) : Nat := ((List.range n).filter (isFst go n m r)).length
theorem isFst_iff {go : Nat → Nat → Int} {n m r i : Nat} (hi : i < n) : isFst go n m r i = true ↔ ∀ j, j < i → ¬ EqR go n m r j i := by
 unfold isFst
 have hl := partsR_len go n m r
 rw [decide_eq_true_iff]
 constructor
 ·intro h j hj he
  have : j < fstIx (partsR go n m r) ((partsR go n m r).getD i 0) := by omega
  refine fstIx_first this ?_
  unfold EqR at he
  rw [← he, getD_eq (by omega)]
  exact List.getElem?_eq_getElem _
 ·intro h
  refine fstIx_eq ?_ fun j hj hk => ?_
  ·rw [getD_eq (by omega)]; exact List.getElem?_eq_getElem _
  ·refine h j hj ?_
   unfold EqR
   rw [List.getD_eq_getElem?_getD (l := partsR go n m r) (i := j), hk]
   rfl
theorem fst_of {go : Nat → Nat → Int} {n m r i : Nat} (hi : i < n) : ∃ f, f ≤ i ∧ EqR go n m r f i ∧ isFst go n m r f = true := by
 have hl := partsR_len go n m r
 have hm : (partsR go n m r).getD i 0 ∈ partsR go n m r := by rw [getD_eq (by omega)]; exact List.getElem_mem _
 have h1 := fstIx_get hm
 have hle : fstIx (partsR go n m r) ((partsR go n m r).getD i 0) ≤ i := by
  rcases Nat.lt_or_ge i (fstIx (partsR go n m r) ((partsR go n m r).getD i 0)) with k | k
  ·exact absurd (by rw [getD_eq (by omega)]; exact List.getElem?_eq_getElem _) (fstIx_first k)
  ·exact k
 refine ⟨_, hle, ?_, ?_⟩
 ·unfold EqR
  rw [List.getD_eq_getElem?_getD (l := partsR go n m r) (i := fstIx (partsR go n m r) ((partsR go n m r).getD i 0)), h1]
  rfl
 ·unfold isFst
  rw [decide_eq_true_iff]
  congr 1
  rw [List.getD_eq_getElem?_getD (l := partsR go n m r) (i := fstIx (partsR go n m r) ((partsR go n m r).getD i 0)), h1]
  rfl
theorem cntR_grows {go : Nat → Nat → Int} {n m r : Nat} (hgo : ∀ i k, i < n → k < m → go i k < (n : Int)) (hne : partsR go n m r ≠ partsR go n m (r + 1)) : cntR go n m r < cntR go n m (r + 1) := by
 unfold cntR
 refine filter_lt _ (fun x hx hp => ?_) ?_
 ·have hx := List.mem_range.1 hx
  rw [isFst_iff hx] at hp ⊢
  exact fun j hj he => hp j hj (eqR_mono hgo r (by omega) hx he)
 ·refine Classical.byContradiction fun hno => hne ?_
  have hall : ∀ x, x < n → isFst go n m (r + 1) x = true → isFst go n m r x = true := fun x hx h1 => by
   cases h2 : isFst go n m r x with
   | true => rfl
   | false => exact absurd ⟨x, List.mem_range.2 hx, h2, h1⟩ hno
  refine partsR_pat fun i j hi hj => ⟨fun h => ?_, eqR_mono hgo r hi hj⟩
  obtain ⟨f, hf, he, hfi⟩ := fst_of (go := go) (m := m) (r := r + 1) hi
  obtain ⟨g, hg, ke, kfi⟩ := fst_of (go := go) (m := m) (r := r + 1) hj
  have h1 := hall f (by omega) hfi
  have h2 := hall g (by omega) kfi
  rw [isFst_iff (by omega)] at h1 h2
  have e1 := eqR_mono hgo r (show f < n by omega) hi he
  have e2 := eqR_mono hgo r (show g < n by omega) hj ke
  have efg : EqR go n m r f g := by unfold EqR at *; rw [e1, h, e2]
  have : f = g := by
   rcases Nat.lt_trichotomy f g with k | k | k
   ·exact absurd efg (h2 f k)
   ·exact k
   ·exact absurd (by unfold EqR at *; exact efg.symm) (h1 g k)
  subst this
  unfold EqR at *
  rw [← he, ke]
theorem cntR_le (go : Nat → Nat → Int) (n m r : Nat) : cntR go n m r ≤ n := by
 unfold cntR
 refine Nat.le_trans (List.length_filter_le _ _) ?_
 simp
/-- As long as nothing stays, there are rounds fewer than states. -/
theorem rounds_few {go : Nat → Nat → Int} {n m : Nat} (hn : 0 < n) (hgo : ∀ i k, i < n → k < m → go i k < (n : Int)) {r : Nat} (h : ∀ s, s < r → partsR go n m s ≠ partsR go n m (s + 1)) : r < n := by
 have h0 : 1 ≤ cntR go n m 0 := by
  unfold cntR
  rw [Nat.succ_le_iff, List.length_pos_iff]
  refine List.ne_nil_of_mem (a := 0) (List.mem_filter.2 ⟨List.mem_range.2 hn, ?_⟩)
  rw [isFst_iff hn]
  exact fun j hj => absurd hj (Nat.not_lt_zero _)
 have h1 : ∀ s, s ≤ r → s + 1 ≤ cntR go n m s := by
  intro s
  induction s with
  | zero => exact fun _ => h0
  | succ s ih =>
   intro hs
   have := ih (by omega)
   have := cntR_grows hgo (h s (by omega))
   omega
 have := h1 r (Nat.le_refl _)
 have := cntR_le go n m r
 omega
/-- Where a partition stays, it is the last one. -/
theorem parts_last {go : Nat → Nat → Int} {n m r : Nat} (hr : r ≤ n) (h : partsR go n m r = partsR go n m (r + 1)) : partsR go n m r = partsR go n m n := by
 have := partsR_stays h (n - r)
 rw [show r + (n - r) = n from by omega] at this
 exact this.symm

end Go.Proofs.YtaabkeejbhdenaaGreatDoor

namespace Go.Proofs.YtaabkeejbhdenaaGreatDoor
open Go Go.RowKit

/-- A state's block. -/
def bkOf (p : List Int) (x : Int) : Int := p.getD x.toNat 0
structure MNet where
 rows : List Int
 edges : List Edge
def mplace (p S : List Int) (x : Int) : Nat := fstIx (S.map (bkOf p)) (bkOf p x)
def madd (p S : List Int) (x : Int) : List Int := if mplace p S x < S.length then S else S ++ [x]
def mstep (p : List Int) (i : Nat) (st : MNet) (e : Edge) : MNet := ⟨madd p st.rows e.dst, st.edges ++ [⟨(i : Int), e.lab, (mplace p st.rows e.dst : Int)⟩]⟩
def mrow (p : List Int) (i : Nat) (es : List Edge) (st : MNet) : MNet := es.foldl (mstep p i) st
def mAt (d : Lts) (p : List Int) : Nat → MNet
 | 0 => ⟨[0], []⟩
 | n + 1 => match (mAt d p n).rows[n]? with
  | none => mAt d p n
  | some k => mrow p n (outOf d k) (mAt d p n)
def MDone (d : Lts) (p : List Int) (st : MNet) : Prop := ∃ n, mAt d p n = st ∧ st.rows.length ≤ n
theorem mAt_some {d : Lts} {p : List Int} {n : Nat} {k : Int} (h : (mAt d p n).rows[n]? = some k) : mAt d p (n + 1) = mrow p n (outOf d k) (mAt d p n) := by
 rw [mAt, h]
theorem mAt_stays {d : Lts} {p : List Int} {n : Nat} (h : (mAt d p n).rows.length ≤ n) : ∀ k, mAt d p (n + k) = mAt d p n
 | 0 => rfl
 | k + 1 => by
  have ih := mAt_stays h k
  show mAt d p (n + k + 1) = _
  rw [mAt, ih, List.getElem?_eq_none (by omega)]
theorem MDone.unique {d : Lts} {p : List Int} {a b : MNet} (h : MDone d p a) (k : MDone d p b) : a = b := by
 obtain ⟨n, rfl, hn⟩ := h
 obtain ⟨m, rfl, hm⟩ := k
 rcases Nat.le_total n m with e | e
 ·have := mAt_stays hn (m - n)
  rw [show n + (m - n) = m from by omega] at this
  exact this.symm
 ·have := mAt_stays hm (n - m)
  rw [show m + (n - m) = n from by omega] at this
  exact this
theorem mplace_le (p S : List Int) (x : Int) : mplace p S x ≤ S.length := by
 have := fstIx_le (S.map (bkOf p)) (bkOf p x)
 rwa [List.length_map] at this
theorem mplace_lt {p S : List Int} {x : Int} : mplace p S x < S.length ↔ bkOf p x ∈ S.map (bkOf p) := by
 constructor
 ·intro h
  refine Classical.byContradiction fun hn => ?_
  have := fstIx_not hn
  rw [List.length_map] at this
  unfold mplace at h
  omega
 ·intro h
  have := fstIx_lt h
  rwa [List.length_map] at this
theorem madd_old {p S : List Int} {x : Int} (h : bkOf p x ∈ S.map (bkOf p)) : madd p S x = S := by unfold madd; rw [if_pos (mplace_lt.2 h)]
theorem madd_new {p S : List Int} {x : Int} (h : bkOf p x ∉ S.map (bkOf p)) : madd p S x = S ++ [x] ∧ mplace p S x = S.length := by
 unfold madd
 refine ⟨by rw [if_neg fun k => h (mplace_lt.1 k)], ?_⟩
 have := fstIx_not h
 rwa [List.length_map] at this
theorem madd_len (p S : List Int) (x : Int) : S.length ≤ (madd p S x).length ∧ mplace p S x < (madd p S x).length := by
 by_cases h : bkOf p x ∈ S.map (bkOf p)
 ·rw [madd_old h]; exact ⟨Nat.le_refl _, mplace_lt.2 h⟩
 ·obtain ⟨h1, h2⟩ := madd_new h
  rw [h1, h2]; simp
theorem madd_prefix (p S : List Int) (x : Int) : ∃ t, madd p S x = S ++ t := by
 unfold madd
 split
 ·exact ⟨[], by simp⟩
 ·exact ⟨[x], rfl⟩
theorem mrow_cons (p : List Int) (i : Nat) (e : Edge) (es : List Edge) (st : MNet) : mrow p i (e :: es) st = mrow p i es (mstep p i st e) := rfl
theorem mrow_snoc (p : List Int) (i : Nat) (es : List Edge) (e : Edge) (st : MNet) : mrow p i (es ++ [e]) st = mstep p i (mrow p i es st) e := by unfold mrow; rw [List.foldl_append]; rfl
theorem mrow_prefix (p : List Int) (i : Nat) : ∀ (es : List Edge) (st : MNet), (∃ t, (mrow p i es st).rows = st.rows ++ t) ∧ (mrow p i es st).edges.length = st.edges.length + es.length
 | [], st => ⟨⟨[], by simp [mrow]⟩, by simp [mrow]⟩
 | e :: es, st => by
  obtain ⟨⟨t, ht⟩, h2⟩ := mrow_prefix p i es (mstep p i st e)
  obtain ⟨s, hs⟩ := madd_prefix p st.rows e.dst
  refine ⟨⟨s ++ t, ?_⟩, ?_⟩
  ·rw [mrow_cons, ht]
   show madd p st.rows e.dst ++ t = _
   rw [hs, List.append_assoc]
  ·rw [mrow_cons, h2]
   show (st.edges ++ _).length + _ = _
   simp; omega
/-- What holds of the search at each point. -/
structure MGood (d : Lts) (p : List Int) (st : MNet) : Prop where
 some : 0 < st.rows.length
 low : ∀ x ∈ st.rows, 0 ≤ x ∧ x < d.states
 nodup : (st.rows.map (bkOf p)).Nodup
 edges : ∀ e ∈ st.edges, (0 ≤ e.src ∧ e.src < st.rows.length) ∧ (1 ≤ e.lab ∧ e.lab < d.labels.length) ∧ 0 ≤ e.dst ∧ e.dst < st.rows.length
theorem MGood.step {d : Lts} {p : List Int} {st : MNet} (h : MGood d p st) {i : Nat} (hi : i < st.rows.length) {e : Edge} (h1 : 1 ≤ e.lab) (h2 : e.lab < d.labels.length) (h3 : 0 ≤ e.dst) (h4 : e.dst < d.states) : MGood d p (mstep p i st e) := by
 have hl := madd_len p st.rows e.dst
 refine ⟨by show 0 < (madd p st.rows e.dst).length; have := h.some; omega, ?_, ?_, ?_⟩
 ·intro x hx
  change x ∈ madd p st.rows e.dst at hx
  unfold madd at hx
  split at hx
  ·exact h.low x hx
  ·rcases List.mem_append.1 hx with k | k
   ·exact h.low x k
   ·rw [List.mem_singleton] at k; subst k; exact ⟨h3, h4⟩
 ·show ((madd p st.rows e.dst).map (bkOf p)).Nodup
  by_cases k : bkOf p e.dst ∈ st.rows.map (bkOf p)
  ·rw [madd_old k]; exact h.nodup
  ·rw [(madd_new k).1, List.map_append, List.map_cons, List.map_nil, List.nodup_append]
   refine ⟨h.nodup, by simp, ?_⟩
   intro a ha b hb
   rw [List.mem_singleton] at hb
   subst hb
   exact fun e => k (e ▸ ha)
 ·intro x hx
  rcases List.mem_append.1 hx with k | k
  ·have := h.edges x k
   exact ⟨⟨this.1.1, by have := this.1.2; show x.src < (((madd p st.rows e.dst).length : Nat) : Int); omega⟩, this.2.1, this.2.2.1, by have := this.2.2.2; show x.dst < (((madd p st.rows e.dst).length : Nat) : Int); omega⟩
  ·rw [List.mem_singleton] at k
   subst k
   refine ⟨⟨by simp, ?_⟩, ⟨h1, h2⟩, by simp, ?_⟩
   ·show (i : Int) < (((madd p st.rows e.dst).length : Nat) : Int); omega
   ·show ((mplace p st.rows e.dst : Nat) : Int) < (((madd p st.rows e.dst).length : Nat) : Int); omega
theorem MGood.row {d : Lts} {p : List Int} {i : Nat} : ∀ (es : List Edge) {st : MNet}, MGood d p st → i < st.rows.length → (∀ e ∈ es, (1 ≤ e.lab ∧ e.lab < d.labels.length) ∧ 0 ≤ e.dst ∧ e.dst < d.states) → MGood d p (mrow p i es st)
 | [], _, h, _, _ => h
 | e :: es, st, h, hi, he => by
  have h1 := he e (List.mem_cons_self ..)
  rw [mrow_cons]
  refine MGood.row es (h.step hi h1.1.1 h1.1.2 h1.2.1 h1.2.2) ?_ fun x hx => he x (List.mem_cons_of_mem _ hx)
  have := (madd_len p st.rows e.dst).1
  show i < (madd p st.rows e.dst).length
  omega
theorem out_ok {d : Lts} (hv : Valid d) (hs : Single d) {k : Int} : ∀ e ∈ outOf d k, (1 ≤ e.lab ∧ e.lab < d.labels.length) ∧ 0 ≤ e.dst ∧ e.dst < d.states := by
 intro e he
 obtain ⟨i, hi, rfl⟩ := List.mem_iff_getElem.1 (List.mem_filter.1 he).1
 have h1 := hv.edge i hi
 have h2 := hs.visible i hi
 exact ⟨⟨by have := h1.l0; omega, h1.l1⟩, h1.d0, h1.d1⟩
theorem MGood.at {d : Lts} {p : List Int} (hv : Valid d) (hs : Single d) : ∀ n, MGood d p (mAt d p n)
 | 0 => ⟨by simp [mAt], fun x hx => by
   have : x = 0 := by simpa [mAt] using hx
   subst this
   have := hv.st0
   exact ⟨Int.le_refl 0, by omega⟩, by simp [mAt], by simp [mAt]⟩
 | n + 1 => by
  rw [mAt]
  split
  ·exact MGood.at hv hs n
  ·next k hk => exact (MGood.at hv hs n).row _ (List.getElem?_eq_some_iff.1 hk).1 (out_ok hv hs)
/-- The edges rise. -/
theorem mAt_up {d : Lts} {p : List Int} (hu : Up d.edges) : ∀ n, Up (mAt d p n).edges ∧ ∀ e ∈ (mAt d p n).edges, e.src < (n : Int)
 | 0 => by simp [mAt, Up]
 | n + 1 => by
  have ih := mAt_up (p := p) hu n
  rw [mAt]
  split
  ·exact ⟨ih.1, fun e he => by have := ih.2 e he; omega⟩
  ·next k hk =>
   have key : ∀ (es : List Edge) (st : MNet), es.Pairwise (fun a b => a.lab < b.lab) → Up st.edges → (∀ e ∈ st.edges, e.src < (n : Int) ∨ (e.src = (n : Int) ∧ ∀ a ∈ es, e.lab < a.lab)) → Up (mrow p n es st).edges ∧ ∀ e ∈ (mrow p n es st).edges, e.src ≤ (n : Int) := by
    intro es
    induction es with
    | nil => exact fun st _ h1 h2 => ⟨h1, fun e he => by
      have h3 : e.src < (n : Int) ∨ (e.src = (n : Int) ∧ ∀ a ∈ ([] : List Edge), e.lab < a.lab) := h2 e he
      rcases h3 with h | ⟨h, -⟩ <;> omega⟩
    | cons a es ih2 =>
     intro st hes h1 h2
     rw [List.pairwise_cons] at hes
     rw [mrow_cons]
     refine ih2 _ hes.2 ?_ ?_
     ·show Up (st.edges ++ [⟨(n : Int), a.lab, _⟩])
      unfold Up
      rw [List.pairwise_append]
      refine ⟨h1, List.pairwise_singleton _ _, ?_⟩
      intro x hx y hy
      rw [List.mem_singleton] at hy
      subst hy
      rcases h2 x hx with h | ⟨h, h3⟩
      ·exact .inl h
      ·exact .inr ⟨h, h3 a (List.mem_cons_self ..)⟩
     ·intro x hx
      rcases List.mem_append.1 hx with h | h
      ·rcases h2 x h with k1 | ⟨k1, k2⟩
       ·exact .inl k1
       ·exact .inr ⟨k1, fun y hy => k2 y (List.mem_cons_of_mem _ hy)⟩
      ·rw [List.mem_singleton] at h
       subst h
       exact .inr ⟨rfl, fun y hy => hes.1 y hy⟩
   have := key (outOf d k) (mAt d p n) (out_up hu k) ih.1 fun e he => .inl (ih.2 e he)
   exact ⟨this.1, fun e he => by have := this.2 e he; omega⟩
/-- The search's net as a net of one-state sets. -/
def mNet (st : MNet) : DNet := ⟨st.rows.map ([·]), st.edges⟩
theorem mNet_good {d : Lts} {p : List Int} {st : MNet} (h : MGood d p st) : DGood d (mNet st) := by
 refine ⟨?_, by show 0 < (st.rows.map _).length; rw [List.length_map]; exact h.some, ?_, ?_⟩
 ·show (st.rows.map ([·])).Nodup
  rw [List.nodup_iff_pairwise_ne, List.pairwise_map]
  have h1 := h.nodup
  rw [List.nodup_iff_pairwise_ne, List.pairwise_map] at h1
  exact h1.imp fun {a b} hne e => hne (by rw [show a = b from by simpa using e])
 ·intro r hr
  obtain ⟨x, hx, rfl⟩ := List.mem_map.1 hr
  exact ⟨fun y hy => by rw [List.mem_singleton] at hy; subst hy; exact h.low _ hx, List.pairwise_singleton _ _, by simp⟩
 ·intro e he
  have := h.edges e he
  show (0 ≤ e.src ∧ e.src < (((st.rows.map ([·])).length : Nat) : Int)) ∧ _ ∧ 0 ≤ e.dst ∧ e.dst < (((st.rows.map ([·])).length : Nat) : Int)
  rw [List.length_map]
  exact this
/-- The moves by labels' numbers. -/
def goOf (d : Lts) (i k : Nat) : Int := goTo d (i : Int) (d.labels.getD (k + 1) ByteArray.empty)
theorem goOf_lt {d : Lts} (hv : Valid d) (i k : Nat) : -1 ≤ goOf d i k ∧ goOf d i k < d.states := goTo_range hv _ _
/-- The partition at rest. -/
def restP (d : Lts) : List Int := partsR (goOf d) d.states.toNat (d.labels.length - 1) d.states.toNat
theorem restP_low {d : Lts} (hv : Valid d) : ∀ x ∈ restP d, 0 ≤ x ∧ x < (40 : Int) := fun x hx => by
 have h1 := partsR_range (goOf d) (n := d.states.toNat) (m := d.labels.length - 1) d.states.toNat hx
 have := hv.st0
 have := hv.st1
 omega
theorem restP_len {d : Lts} (hv : Valid d) : ((restP d).length : Int) = d.states := by
 have h := partsR_len (goOf d) d.states.toNat (d.labels.length - 1) d.states.toNat
 have := hv.st0
 unfold restP
 omega
/-- The least system. -/
def MinSys (d r : Lts) : Prop := ∃ st, MDone d (restP d) st ∧ r = sysOf d (mNet st)
theorem MinSys.unique {d r r' : Lts} (h : MinSys d r) (k : MinSys d r') : r = r' := by
 obtain ⟨a, h1, rfl⟩ := h
 obtain ⟨b, k1, rfl⟩ := k
 rw [h1.unique k1]
def MinIs (t r : Lts) (code : Int) : Prop :=
 (¬ Valid t ∧ r = ⟨0, 0, [], []⟩ ∧ code = 1) ∨ (Valid t ∧ DFull t ∧ r = ⟨0, 0, [], []⟩ ∧ code = 5) ∨ (Valid t ∧ ∃ st, DOk t st ∧ MinSys (dSys t st) r ∧ code = 0)
theorem MinIs.unique {t r r' : Lts} {code code' : Int} (h : MinIs t r code) (k : MinIs t r' code') : r = r' ∧ code = code' := by
 rcases h with ⟨h1, h2, h3⟩ | ⟨h1, h2, h3, h4⟩ | ⟨h1, st, h2, h3, h4⟩ <;> rcases k with ⟨k1, k2, k3⟩ | ⟨k1, k2, k3, k4⟩ | ⟨k1, st', k2, k3, k4⟩ <;>
  first
  | exact absurd k1 h1
  | exact absurd h1 k1
  | exact ⟨h2.trans k2.symm, h3.trans k3.symm⟩
  | exact ⟨h3.trans k3.symm, h4.trans k4.symm⟩
  | exact absurd k2 h2.not_full
  | exact absurd h2 k2.not_full
  | skip
 have := h2.1.unique k2.1
 subst this
 exact ⟨h3.unique k3, h4.trans k4.symm⟩

end Go.Proofs.YtaabkeejbhdenaaGreatDoor

namespace Go.Proofs.YtaabkeejbhdenaaGreatDoor
open Go Go.RowKit

theorem findIdx_hit {α : Type} {p : α → Bool} {l : List α} {k : Nat} (hk : k < l.length) (h1 : ∀ j (h : j < l.length), j < k → p l[j] = false) (h2 : p l[k] = true) : l.findIdx p = k := by
 rw [List.findIdx_eq hk]
 exact ⟨h2, fun j hj => h1 j (by omega) hj⟩
theorem findIdx_none {α : Type} {p : α → Bool} {l : List α} (h1 : ∀ j (h : j < l.length), p l[j] = false) : l.findIdx p = l.length := by
 rw [List.findIdx_eq_length]
 intro x hx
 obtain ⟨j, hj, rfl⟩ := List.mem_iff_getElem.1 hx
 exact h1 j hj

/-- The first place of a text among texts, or -1. -/
def textAt (ss : List ByteArray) (s : ByteArray) : Int := if ss.findIdx (fun t => t.toList == s.toList) < ss.length then (ss.findIdx (fun t => t.toList == s.toList) : Nat) else -1

set_option maxRecDepth 100000 in
set_option maxHeartbeats 1000000 in
theorem l11Find_any (lo : Nat) (v : Value) (ss : List ByteArray) (s : ByteArray) (w : World) (hv : SliceK 1 encS lo w v ss) : Calls Tryz.prog 121 #[v, .string s] w fun e w' => e = .returned (.int .i64 (textAt ss s)) ∧ Below w.heap.size w w' := by
 obtain ⟨a, cap, rfl, hn, hcap, hrow⟩ := hv
 go_enter Tryz.func121, Tryz.ntmps121
 go_wp2
 go_loopw [5] (fun i wr => ∃ k : Nat, k ≤ ss.length ∧ i = .int .i64 k ∧ Below w.heap.size w wr ∧ ∀ j (h : j < ss.length), j < k → (ss[j].toList == s.toList) = false) (fun i _ => ss.length - (intOf i).toNat)
 case atStart => exact ⟨0, Nat.zero_le _, rfl, Below.refl _ _, fun _ _ h => by omega⟩
 case round =>
  obtain ⟨k, hk, rfl, hbl, hx⟩ := hrel
  have HX := Lib.hid hx
  have HBL := Lib.hid hbl
  have hsz := hbl.size
  clear hx
  by_cases hlt : k < ss.length
  ·obtain ⟨b, o, rfl, -, hb, c⟩ := (hrow.below hbl).one hlt
   simp only [encS, List.getElem?_cons_zero] at c
   clear hrow hbl
   cases g : (ss[k].toList == s.toList)
   ·have HG := Lib.hid g
    go_wp2
    go_roundw
    case rel => exact ⟨k + 1, by omega, by go_num, HBL.out, fun j h h' => by
      by_cases e : j = k
      ·subst e; exact HG.out
      ·exact HX.out j h (by omega)⟩
    case measure => simp [intOf]; omega
   ·have HG : Hid (textAt ss s = (k : Int)) := by
     unfold Hid textAt
     rw [findIdx_hit hlt HX.out g, if_pos hlt]
    go_wp2
    go_ret
    exact ⟨ret_int HG.out.symm, HBL.out⟩
  ·clear hrow hbl
   go_wp2
   go_ret
   refine ⟨ret_int ?_, HBL.out⟩
   unfold textAt
   rw [findIdx_none (fun j h => HX.out j h (by omega)), if_neg (by omega)]

theorem textAt_some {ss : List ByteArray} {s : ByteArray} (h : ¬ textAt ss s < 0) : ∃ n : Nat, textAt ss s = n ∧ ∃ hn : n < ss.length, ss[n].toList = s.toList := by
 unfold textAt at h ⊢
 by_cases hlt : ss.findIdx (fun t => t.toList == s.toList) < ss.length
 ·rw [if_pos hlt]
  refine ⟨_, rfl, hlt, ?_⟩
  have := List.findIdx_getElem (p := fun t : ByteArray => t.toList == s.toList) (xs := ss) (w := hlt)
  exact eq_of_beq this
 ·rw [if_neg hlt] at h
  omega
theorem textAt_neg {ss : List ByteArray} {s : ByteArray} : textAt ss s < 0 ↔ (ss.any fun t => t.toList == s.toList) = false := by
 unfold textAt
 by_cases hlt : ss.findIdx (fun t => t.toList == s.toList) < ss.length
 ·rw [if_pos hlt]
  have h1 := List.findIdx_lt_length.1 hlt
  constructor
  ·intro h; omega
  ·intro h
   rw [List.any_eq_false] at h
   obtain ⟨x, hx, hp⟩ := h1
   exact absurd hp (h x hx)
 ·rw [if_neg hlt]
  refine ⟨fun _ => ?_, fun _ => by omega⟩
  rw [List.any_eq_false]
  intro x hx hp
  exact hlt (List.findIdx_lt_length.2 ⟨x, hx, hp⟩)


end Go.Proofs.YtaabkeejbhdenaaGreatDoor

namespace Go.Proofs.YtaabkeejbhdenaaGreatDoor
open Go Go.RowKit

/-- The first place of a number, or -1. -/
def placeI (xs : List Int) (n : Int) : Int := if xs.findIdx (fun x => x == n) < xs.length then (xs.findIdx (fun x => x == n) : Nat) else -1
set_option maxRecDepth 100000 in
set_option maxHeartbeats 1000000 in
theorem l11Place_any (lo : Nat) (v : Value) (xs : List Int) (n : Int) (w : World) (hv : SliceK 1 encI lo w v xs) : Calls Tryz.prog 49 #[v, .int .i64 n] w fun e w' => e = .returned (.int .i64 (placeI xs n)) ∧ Below w.heap.size w w' := by
 obtain ⟨a, cap, rfl, hn, hcap, hrow⟩ := hv
 go_enter Tryz.func49, Tryz.ntmps49
 go_wp2
 go_loopw [5] (fun i wr => ∃ k : Nat, k ≤ xs.length ∧ i = .int .i64 k ∧ Below w.heap.size w wr ∧ ∀ j (h : j < xs.length), j < k → (xs[j] == n) = false) (fun i _ => xs.length - (intOf i).toNat)
 case atStart => exact ⟨0, Nat.zero_le _, rfl, Below.refl _ _, fun _ _ h => by omega⟩
 case round =>
  obtain ⟨k, hk, rfl, hbl, hx⟩ := hrel
  have HX := Lib.hid hx
  have HBL := Lib.hid hbl
  have hsz := hbl.size
  clear hx
  by_cases hlt : k < xs.length
  ·obtain ⟨b, o, rfl, -, hb, c⟩ := (hrow.below hbl).one hlt
   simp only [encI, List.getElem?_cons_zero] at c
   clear hrow hbl
   cases g : (xs[k] == n)
   ·have HG := Lib.hid g
    go_wp2
    go_roundw
    case rel => exact ⟨k + 1, by omega, by go_num, HBL.out, fun j h h' => by
      by_cases e : j = k
      ·subst e; exact HG.out
      ·exact HX.out j h (by omega)⟩
    case measure => simp [intOf]; omega
   ·have HG : Hid (placeI xs n = (k : Int)) := by
     unfold Hid placeI
     rw [findIdx_hit hlt HX.out g, if_pos hlt]
    go_wp2
    go_ret
    exact ⟨ret_int HG.out.symm, HBL.out⟩
  ·clear hrow hbl
   go_wp2
   go_ret
   refine ⟨ret_int ?_, HBL.out⟩
   unfold placeI
   rw [findIdx_none (fun j h => HX.out j h (by omega)), if_neg (by omega)]

end Go.Proofs.YtaabkeejbhdenaaGreatDoor

namespace Go.Proofs.YtaabkeejbhdenaaGreatDoor
open Go Go.RowKit

/-- The step by a label's number is the edge with it. -/
theorem goTo_lab {d : Lts} (hv : Valid d) {x : Int} (hx : 0 ≤ x) {k : Nat} (hk : k < d.labels.length) : goTo d x d.labels[k] = (((outOf d x).find? fun e => e.lab == (k : Int)).map Edge.dst).getD (-1) := by
 unfold goTo
 rw [if_neg (by omega)]
 congr 2
 have he : ∀ e ∈ d.edges, hitB d x d.labels[k] e = ((e.src == x) && (e.lab == (k : Int))) := by
  intro e he
  obtain ⟨i, hi, rfl⟩ := List.mem_iff_getElem.1 he
  have hok := hv.edge i hi
  obtain ⟨hlt, hla⟩ := labAt_idx hok
  unfold hitB
  congr 1
  rw [hla]
  cases hb : (d.edges[i].lab == (k : Int)) with
  | true =>
   rw [beq_iff_eq] at hb
   have : d.edges[i].lab.toNat = k := by omega
   simp [this]
  | false =>
   rw [beq_eq_false_iff_ne] at hb ⊢
   intro e2
   have := labels_inj hv.labels _ _ hlt hk e2
   have := hok.l0
   omega
 unfold outOf
 rw [List.find?_filter]
 generalize d.edges = es at he
 induction es with
 | nil => rfl
 | cons a es ih =>
  rw [List.find?_cons, List.find?_cons, he a (by simp), ih (fun e h => he e (List.mem_cons_of_mem _ h))]
  simp only [Bool.decide_and, Bool.decide_eq_true]
theorem outTo_next {d : Lts} (hu : Up d.edges) (x : Int) (k : Nat) : outTo d x (k + 1) = outTo d x k ++ ((outOf d x).find? fun e => e.lab == (k : Int)).toList := by
 have := filter_next (k := (k : Int)) (out_up hu x)
 unfold outTo
 have h1 : ((k + 1 : Nat) : Int) = (k : Int) + 1 := by omega
 rw [h1]
 exact this

end Go.Proofs.YtaabkeejbhdenaaGreatDoor

namespace Go.Proofs.YtaabkeejbhdenaaGreatDoor
open Go Go.RowKit

/-- A block with room for c elements of one cell; the first n of them are cs. -/
structure CellsAt (w : World) (g : Nat) (T : TypeId) (n c : Nat) (cs : List Value) : Prop where
 blk : ∃ rest : List Value, Blk w g (cs ++ rest) T ∧ cs.length + rest.length = c
 len : cs.length = n
theorem CellsAt.lt {w : World} {g n c : Nat} {T : TypeId} {cs : List Value} (h : CellsAt w g T n c cs) : g < w.heap.size := by obtain ⟨r, hr, -⟩ := h.blk; exact hr.lt
theorem CellsAt.below {w w' : World} {g n c : Nat} {T : TypeId} {cs : List Value} (h : CellsAt w g T n c cs) (hb : Below w.heap.size w w') : CellsAt w' g T n c cs := by
 obtain ⟨r, hr, hl⟩ := h.blk
 exact ⟨⟨r, hr.below hb, hl⟩, h.len⟩
theorem CellsAt.cell {w : World} {g n c : Nat} {T : TypeId} {cs : List Value} (h : CellsAt w g T n c cs) (i : Nat) (hi : i < n) : w.cell? ⟨g, i, none⟩ = cs[i]? := by
 obtain ⟨r, hr, -⟩ := h.blk
 have hi2 : i < cs.length := by rw [h.len]; exact hi
 rw [hr.cell i (v := cs[i]) (by rw [List.getElem?_append_left hi2, List.getElem?_eq_getElem hi2]), List.getElem?_eq_getElem hi2]
theorem CellsAt.frozen {w : World} {g n c : Nat} {T : TypeId} {cs : List Value} (h : CellsAt w g T n c cs) (i : Nat) : w.frozen? ⟨g, i, none⟩ = false := by
 obtain ⟨r, hr, -⟩ := h.blk
 exact hr.frozen i
theorem CellsAt.set {w : World} {g n c : Nat} {T : TypeId} {cs : List Value} (h : CellsAt w g T n c cs) (i : Nat) (hi : i < n) (v : Value) : CellsAt (w.setCell ⟨g, i, none⟩ v) g T n c (cs.set i v) := by
 obtain ⟨r, hr, hl⟩ := h.blk
 have hi2 : i < cs.length := by rw [h.len]; exact hi
 refine ⟨⟨r, ?_, by rw [List.length_set]; exact hl⟩, by rw [List.length_set]; exact h.len⟩
 have := hr.set i v
 rwa [List.set_append_left _ _ hi2] at this
theorem CellsAt.sets {g n c : Nat} {T : TypeId} (z : Value) : ∀ (m i : Nat) {w : World} {cs : List Value}, CellsAt w g T n c cs → i + m = n → CellsAt (w.setCells g i (List.replicate m z)) g T n c (cs.take i ++ List.replicate m z)
 | 0, i, w, cs, h, hi => by
  have : cs.take i = cs := List.take_of_length_le (by rw [h.len]; omega)
  rw [List.replicate_zero, List.append_nil, this]
  exact h
 | m + 1, i, w, cs, h, hi => by
  have h1 := CellsAt.sets z m (i + 1) (h.set i (by omega) z) (by omega)
  have hil : i < cs.length := by rw [h.len]; omega
  rw [List.replicate_succ, World.setCells]
  have e : (cs.set i z).take (i + 1) = cs.take i ++ [z] := by
   rw [List.take_succ_eq_append_getElem (by rw [List.length_set]; exact hil), List.getElem_set_self, List.take_set_of_le (Nat.le_refl _)]
  rw [e, List.append_assoc] at h1
  exact h1
theorem CellsAt.clear {w : World} {g n c i : Nat} {T : TypeId} {cs : List Value} {z : Value} (h : CellsAt w g T n c cs) (hi : i < n) : CellsAt (w.setCells g i (List.replicate (n - i) z)) g T n c (cs.take i ++ List.replicate (n - i) z) := CellsAt.sets z (n - i) i h (by omega)
theorem CellsAt.of_owns {w : World} {B g n c : Nat} {T : TypeId} {cs : List Value} (h : w.ownsRow B T 1 (.slice (some ⟨g, 0, none⟩) n c) n cs) : CellsAt w g T n c cs := by
 obtain ⟨h0, ⟨h, -⟩ | ⟨g', cap, cur, e, -, hg, hc, -, hs, ht⟩⟩ := h
 ·cases h
 ·simp only [Value.slice.injEq, Option.some.injEq, Addr.mk.injEq, and_true, true_and] at e
  obtain ⟨rfl, rfl⟩ := e
  rw [Nat.mul_one] at h0 hs ht
  refine ⟨⟨cur.toList.drop n, ?_, ?_⟩, h0⟩
  ·unfold Blk
   rw [← ht, List.take_append_drop]
   simpa using hg
  ·rw [List.length_drop, h0, Array.length_toList, hs]
   omega
end Go.Proofs.YtaabkeejbhdenaaGreatDoor

namespace Go.Proofs.YtaabkeejbhdenaaGreatDoor
open Go Go.RowKit

section
variable {α : Type}
/-- While the tail is moved up: something at the place k. -/
def shiftG (L : List α) (j : α) (k : Nat) : List α := L.take k ++ j :: L.drop k
theorem shiftG_len {L : List α} (j : α) (k : Nat) : (shiftG L j k).length = L.length + 1 := by
 unfold shiftG
 rw [List.length_append, List.length_cons, ← Nat.add_assoc, ← List.length_append, List.take_append_drop]
theorem shiftG_end (L : List α) (j : α) : L ++ [j] = shiftG L j L.length := by simp [shiftG]
theorem shiftG_get {L : List α} {j : α} {k : Nat} (h1 : 1 ≤ k) (hk : k ≤ L.length) : (shiftG L j k)[k - 1]? = some (L[k - 1]'(by omega)) := by
 unfold shiftG
 rw [List.getElem?_append_left (by rw [List.length_take]; omega), List.getElem?_take, if_pos (by omega), List.getElem?_eq_getElem (by omega)]
theorem shiftG_set {L : List α} {j : α} {k : Nat} (h1 : 1 ≤ k) (hk : k ≤ L.length) : (shiftG L j k).set k (L[k - 1]'(by omega)) = shiftG L (L[k - 1]'(by omega)) (k - 1) := by
 unfold shiftG
 have hl : (L.take k).length = k := by rw [List.length_take]; omega
 rw [List.set_append_right _ _ (by omega), hl, Nat.sub_self, List.set_cons_zero]
 have h2 : L.take k = L.take (k - 1) ++ [L[k - 1]'(by omega)] := by
  have := List.take_succ_eq_append_getElem (l := L) (i := k - 1) (by omega)
  rw [show k - 1 + 1 = k from by omega] at this
  exact this
 have h3 : L.drop (k - 1) = L[k - 1]'(by omega) :: L.drop k := by
  have := List.drop_eq_getElem_cons (l := L) (i := k - 1) (by omega)
  rw [show k - 1 + 1 = k from by omega] at this
  exact this
 rw [h2, h3, List.append_assoc]
 rfl
theorem shiftG_put {L : List α} {j x : α} {k : Nat} (hk : k ≤ L.length) : (shiftG L j k).set k x = L.take k ++ x :: L.drop k := by
 unfold shiftG
 have hl : (L.take k).length = k := by rw [List.length_take]; omega
 rw [List.set_append_right _ _ (by omega), hl, Nat.sub_self, List.set_cons_zero]
end

theorem put_rise {E : List Edge} {e : Edge} {k : Nat} (hr : RiseE E) (hk : k ≤ E.length) (hhi : ∀ j (h : j < E.length), k ≤ j → edgeLess e E[j] = true) (hlo : ∀ h : 0 < k, edgeLess (E[k - 1]'(by omega)) e = true) : RiseE (E.take k ++ e :: E.drop k) := by
 have hp := List.pairwise_iff_getElem.1 hr
 unfold RiseE
 rw [List.pairwise_append, List.pairwise_cons]
 have hdrop : ∀ x ∈ E.drop k, edgeLess e x = true := by
  intro x hx
  obtain ⟨i, hi, rfl⟩ := List.mem_iff_getElem.1 hx
  rw [List.getElem_drop]
  rw [List.length_drop] at hi
  exact hhi _ (by omega) (by omega)
 have htake : ∀ x ∈ E.take k, edgeLess x e = true := by
  intro x hx
  obtain ⟨i, hi, rfl⟩ := List.mem_iff_getElem.1 hx
  rw [List.length_take] at hi
  rw [List.getElem_take]
  have h0 : 0 < k := by omega
  by_cases e1 : i = k - 1
  ·have := hlo h0
   subst e1
   exact this
  ·exact edgeLess_trans _ _ _ (hp i (k - 1) (by omega) (by omega) (by omega)) (hlo h0)
 refine ⟨hr.sublist (List.take_sublist _ _), ⟨hdrop, hr.sublist (List.drop_sublist _ _)⟩, fun a ha b hb => ?_⟩
 rcases List.mem_cons.1 hb with rfl | hb
 ·exact htake a ha
 ·exact edgeLess_trans _ _ _ (htake a ha) (hdrop b hb)
theorem put_mem {E : List Edge} {e : Edge} {k : Nat} (x : Edge) : x ∈ E.take k ++ e :: E.drop k ↔ x ∈ E ∨ x = e := by
 rw [List.mem_append, List.mem_cons]
 have h : x ∈ E ↔ x ∈ E.take k ∨ x ∈ E.drop k := by rw [← List.mem_append, List.take_append_drop]
 rw [h]
 constructor
 ·rintro (h | h | h)
  ·exact .inl (.inl h)
  ·exact .inr h
  ·exact .inl (.inr h)
 ·rintro ((h | h) | h)
  ·exact .inl h
  ·exact .inr (.inr h)
  ·exact .inr (.inl h)
theorem put_len {E : List Edge} (e : Edge) (k : Nat) : (E.take k ++ e :: E.drop k).length = E.length + 1 := by
 have := shiftG_len (L := E) e k
 unfold shiftG at this
 exact this

theorem flat_set : ∀ (E : List Edge) (k : Nat) (x : Edge), k < E.length → (((E.flatMap encE).set (k * 3) (.int .i64 x.src)).set (k * 3 + 1) (.int .i64 x.lab)).set (k * 3 + 2) (.int .i64 x.dst) = (E.set k x).flatMap encE
 | [], _, _, h => by simp at h
 | a :: E, 0, x, _ => by simp [encE]
 | a :: E, k + 1, x, h => by
  have ih := flat_set E k x (by simpa using h)
  rw [show (k + 1) * 3 = k * 3 + 3 from by omega]
  simp only [List.flatMap_cons, encE, List.cons_append, List.nil_append, List.set_cons_succ, List.cons.injEq, true_and]
  exact ih
theorem flat_get : ∀ (E : List Edge) (k : Nat) (h : k < E.length), (E.flatMap encE)[k * 3]? = some (.int .i64 E[k].src) ∧ (E.flatMap encE)[k * 3 + 1]? = some (.int .i64 E[k].lab) ∧ (E.flatMap encE)[k * 3 + 2]? = some (.int .i64 E[k].dst)
 | [], _, h => by simp at h
 | a :: E, 0, _ => by simp [encE]
 | a :: E, k + 1, h => by
  have ih := flat_get E k (by simpa using h)
  rw [show (k + 1) * 3 = k * 3 + 3 from by omega]
  simpa [List.flatMap_cons, encE] using ih

theorem CellsAt.of_owns3 {w : World} {B g n c : Nat} {T : TypeId} {cs : List Value} (h : w.ownsRow B T 3 (.slice (some ⟨g, 0, none⟩) n c) n cs) : CellsAt w g T (n * 3) (c * 3) cs := by
 obtain ⟨h0, ⟨h, -⟩ | ⟨g', cap, cur, e, -, hg, hc, -, hs, ht⟩⟩ := h
 ·cases h
 ·simp only [Value.slice.injEq, Option.some.injEq, Addr.mk.injEq, and_true, true_and] at e
  obtain ⟨rfl, rfl⟩ := e
  refine ⟨⟨cur.toList.drop (n * 3), ?_, ?_⟩, h0⟩
  ·unfold Blk
   rw [← ht, List.take_append_drop]
   simpa using hg
  ·rw [List.length_drop, h0, Array.length_toList, hs]
   omega
theorem CellsAt.owns3 {w : World} {B g n c : Nat} {T : TypeId} {cs : List Value} (h : CellsAt w g T (n * 3) (c * 3) cs) (hB : B ≤ g) (hn : n ≤ c) (hc : c ≤ 9223372036854775807) : w.ownsRow B T 3 (.slice (some ⟨g, 0, none⟩) n c) n cs := by
 obtain ⟨r, hr, hl⟩ := h.blk
 have hlen := h.len
 refine ⟨hlen, .inr ⟨g, c, (cs ++ r).toArray, rfl, hB, hr, hn, by simpa [maxLen] using hc, by simp; omega, ?_⟩⟩
 rw [List.toList_toArray, List.take_append_of_le_length (by omega), List.take_of_length_le (by omega)]
/-- The edges in a block of the call's own. -/
def EdgesAt (w : World) (g n c : Nat) (E : List Edge) : Prop := CellsAt w g 73 (n * 3) (c * 3) (E.flatMap encE)
theorem EdgesAt.put {w : World} {g n c : Nat} {E : List Edge} (h : EdgesAt w g n c E) (hn : E.length = n) {k : Nat} (hk : k < n) (x : Edge) :
  EdgesAt (((w.setCell ⟨g, k * 3, none⟩ (.int .i64 x.src)).setCell ⟨g, k * 3 + 1, none⟩ (.int .i64 x.lab)).setCell ⟨g, k * 3 + 2, none⟩ (.int .i64 x.dst)) g n c (E.set k x) := by
 unfold EdgesAt at h ⊢
 rw [← flat_set E k x (by omega)]
 exact ((h.set (k * 3) (by omega) _).set (k * 3 + 1) (by omega) _).set (k * 3 + 2) (by omega) _
theorem EdgesAt.get {w : World} {g n c : Nat} {E : List Edge} (h : EdgesAt w g n c E) (hn : E.length = n) {k : Nat} (hk : k < n) {x : Edge} (hx : E[k]? = some x) : w.cell? ⟨g, k * 3, none⟩ = some (.int .i64 x.src) ∧ w.cell? ⟨g, k * 3 + 1, none⟩ = some (.int .i64 x.lab) ∧ w.cell? ⟨g, k * 3 + 2, none⟩ = some (.int .i64 x.dst) := by
 have hk2 : k < E.length := by omega
 obtain ⟨h1, h2, h3⟩ := flat_get E k hk2
 rw [List.getElem?_eq_getElem hk2] at hx
 cases hx
 exact ⟨by rw [CellsAt.cell h _ (by omega)]; exact h1, by rw [CellsAt.cell h _ (by omega)]; exact h2, by rw [CellsAt.cell h _ (by omega)]; exact h3⟩
/-- Written in one block only. -/
theorem grown_sets {w w' : World} {g a b c : Nat} {x y z : Value} {row : Option Nat} (h : w.grownBy w' row) (hg : row = some g ∨ w.heap.size ≤ g) : w.grownBy (((w'.setCell ⟨g, a, none⟩ x).setCell ⟨g, b, none⟩ y).setCell ⟨g, c, none⟩ z) row := by
 have one : ∀ {w1 : World} (p : Nat) (u : Value), w.grownBy w1 row → w.grownBy (w1.setCell ⟨g, p, none⟩ u) row := by
  intro w1 p u h1
  have h2 := grown_setCell w1 ⟨g, p, none⟩ u
  refine ⟨h2.os.trans h1.os, h2.tape.trans h1.tape, h2.output.trans h1.output, Nat.le_trans h1.size h2.size, fun k hk hne => ?_⟩
  rw [h2.block k (Nat.lt_of_lt_of_le hk h1.size) (by
   intro e
   simp only [Option.some.injEq] at e
   rcases hg with hg | hg
   ·exact hne (by rw [hg, e])
   ·omega)]
  exact h1.block k hk hne
 exact one _ _ (one _ _ (one _ _ h))

end Go.Proofs.YtaabkeejbhdenaaGreatDoor
