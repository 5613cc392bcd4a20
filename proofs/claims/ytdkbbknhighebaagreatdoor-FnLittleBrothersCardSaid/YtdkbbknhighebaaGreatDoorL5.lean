/-
  The distances as the program finds them: which states get a number; the states with a number are closed. Plain.
  Plain notions for a row that is written over in place: what is kept so far, what is still to be looked at.
  A rising list of edges with one edge more: plain, and how it lies in place.
  The library's slices.SortFunc at any list of edges of the call's own.
  Partitions, plainly: numbers by first sight, and the refinement of the states of a deterministic system.
  A slice of slices of one-celled elements, all in memory of the call's own: a row more, a row that grows.
  What the library's functions on slices compute where the implementation's follow calls them.
  What the implementation's follow computes, from any list of states.
  Plain laws for follow and internal: what follow lists is a set; a list that grows until it is closed under internal edges.
  What the implementation's internal and visible compute.
  What the implementation's lts computes: labels sorted and each once, edges by the labels' places, where these stand in order.
-/
import Derived.Test.YtdkbbknhighebaaGreatDoorL4
import Derived.Test.YtdkbbknhighebaaGreatDoorL1
import Derived.Lib.SliceRun
import Derived.Lib.LazyBuf
import Derived.Test.YtdkbbknhighebaaGreatDoorL2
import Derived.Sort.OwnSorted
import Derived.Deep.RegionHeld3
import Derived.Deep.AppendLies
import Derived.Maps.AppendAt
import Derived.Laws.AppendOwnNone
namespace Go.Proofs.YtdkbbknhighebaaGreatDoor
open Go Go.RowKit


/-- How many have no number yet. -/
def negF (far : List Int) : Nat := far.countP fun x => decide (x < 0)
theorem negF_set {far : List Int} {d : Nat} {v : Int} (hd : d < far.length) (h : far[d] < 0) (hv : 0 ≤ v) : negF (far.set d v) + 1 = negF far := by
 unfold negF
 rw [List.countP_set hd]
 have h1 : (decide (far[d] < 0)) = true := decide_eq_true h
 have h2 : (decide (v < 0)) = false := decide_eq_false (by omega)
 rw [h1, h2]
 have h3 : 0 < far.countP fun x => decide (x < 0) := List.countP_pos_iff.2 ⟨far[d], List.getElem_mem hd, h1⟩
 simp only [if_true, Bool.false_eq_true, if_false]
 omega
def hasF (far : List Int) (x : Int) : Prop := 0 ≤ far.getD x.toNat 0
theorem getD_setF {far : List Int} {d : Nat} {v : Int} (hd : d < far.length) (x : Nat) : (far.set d v).getD x 0 = if x = d then v else far.getD x 0 := by
 rw [List.getD_eq_getElem?_getD, List.getD_eq_getElem?_getD, List.getElem?_set]
 by_cases e : d = x
 ·subst e
  rw [if_pos rfl, if_pos hd, if_pos rfl]
  rfl
 ·rw [if_neg e, if_neg (fun h => e h.symm)]
/-- What stands in the midst of a state's edges: m of them are looked at. -/
structure FarMid (t : Lts) (S : Nat) (far todo : List Int) (k : Int) (m : Nat) : Prop where
 len : far.length = S
 low : ∀ x ∈ far, -1 ≤ x
 high : ∀ x ∈ far, x + negF far ≤ (S : Int)
 todoF : ∀ x ∈ todo, (0 ≤ x ∧ x < (S : Int)) ∧ hasF far x
 initF : hasF far t.initial
 kF : (0 ≤ k ∧ k < (S : Int)) ∧ hasF far k
 size : todo.length + negF far + 1 ≤ S
 out : ∀ e ∈ t.edges, hasF far e.src → e.src ∈ todo ∨ e.src = k ∨ hasF far e.dst
 done : ∀ e ∈ t.edges.take m, e.src = k → hasF far e.dst
structure FarInv (t : Lts) (S : Nat) (far todo : List Int) : Prop where
 len : far.length = S
 low : ∀ x ∈ far, -1 ≤ x
 high : ∀ x ∈ far, x + negF far ≤ (S : Int)
 todoF : ∀ x ∈ todo, (0 ≤ x ∧ x < (S : Int)) ∧ hasF far x
 initF : hasF far t.initial
 size : todo.length + negF far ≤ S
 out : ∀ e ∈ t.edges, hasF far e.src → e.src ∈ todo ∨ hasF far e.dst
theorem FarInv.start {t : Lts} {S : Nat} (hv : Valid t) (hS : (S : Int) = t.states) : FarInv t S ((List.replicate S (-1)).set t.initial.toNat 0) [t.initial] := by
 have h0 := hv.in0
 have h1 := hv.in1
 have hst := hv.st1
 have hd : t.initial.toNat < (List.replicate S (-1 : Int)).length := by rw [List.length_replicate]; omega
 have hn : negF (List.replicate S (-1 : Int)) = S := by
  unfold negF
  rw [List.countP_replicate]
  simp
 have hg : (List.replicate S (-1 : Int))[t.initial.toNat] = -1 := by simp
 have hns := negF_set hd (by rw [hg]; decide) (Int.le_refl 0)
 have hmem : ∀ x ∈ (List.replicate S (-1 : Int)).set t.initial.toNat 0, x = -1 ∨ x = 0 := fun x hx => by
  rcases List.mem_or_eq_of_mem_set hx with h | h
  ·exact .inl (List.eq_of_mem_replicate h)
  ·exact .inr h
 have hh : ∀ x, 0 ≤ x → x < (S : Int) → (hasF ((List.replicate S (-1 : Int)).set t.initial.toNat 0) x ↔ x = t.initial) := fun x hx0 hx1 => by
  unfold hasF
  rw [getD_setF hd]
  by_cases e : x.toNat = t.initial.toNat
  ·rw [if_pos e]
   exact ⟨fun _ => by omega, fun _ => Int.le_refl _⟩
  ·rw [if_neg e, List.getD_eq_getElem?_getD, List.getElem?_replicate, if_pos (by omega)]
   exact ⟨fun h => absurd h (by decide), fun h => absurd (by rw [h]) e⟩
 refine ⟨by simp, fun x hx => ?_, fun x hx => ?_, fun x hx => ?_, ?_, ?_, fun e he hs => ?_⟩
 ·rcases hmem x hx with h | h <;> omega
 ·rcases hmem x hx with h | h <;> omega
 ·rw [List.mem_singleton] at hx
  subst hx
  exact ⟨by omega, (hh _ h0 (by omega)).2 rfl⟩
 ·exact (hh _ h0 (by omega)).2 rfl
 ·simp only [List.length_cons, List.length_nil]
  omega
 ·have h4 := stp_lt hv (x := e.src) (l := e.lab) (y := e.dst) he
  have h5 : 0 ≤ e.src := h4.s0
  have h6 : e.src < t.states := h4.s1
  exact .inl (by rw [(hh _ h5 (by omega)).1 hs]; exact List.mem_singleton.2 rfl)
theorem FarInv.pop {t : Lts} {S : Nat} {far : List Int} {k : Int} {todo : List Int} (h : FarInv t S far (k :: todo)) : FarMid t S far todo k 0 := by
 refine ⟨h.len, h.low, h.high, fun x hx => h.todoF x (by simp [hx]), h.initF, h.todoF k (by simp), ?_, fun e he hs => ?_, fun e he => by simp at he⟩
 ·have := h.size
  simp only [List.length_cons] at this
  omega
 ·rcases h.out e he hs with h1 | h1
  ·rcases List.mem_cons.1 h1 with h2 | h2
   ·exact .inr (.inl h2)
   ·exact .inl h2
  ·exact .inr (.inr h1)
theorem FarMid.skip {t : Lts} {S : Nat} {far todo : List Int} {k : Int} {m : Nat} (h : FarMid t S far todo k m) (hm : m < t.edges.length) (he : t.edges[m].src = k → hasF far t.edges[m].dst) : FarMid t S far todo k (m + 1) := by
 refine ⟨h.len, h.low, h.high, h.todoF, h.initF, h.kF, h.size, h.out, fun e hx hs => ?_⟩
 rw [List.take_succ_eq_append_getElem hm] at hx
 rcases List.mem_append.1 hx with hx | hx
 ·exact h.done e hx hs
 ·rw [List.mem_singleton] at hx
  subst hx
  exact he hs
theorem FarMid.push {t : Lts} {S : Nat} {far todo : List Int} {k : Int} {m : Nat} {d : Nat} (hv : Valid t) (hS : (S : Int) = t.states) (h : FarMid t S far todo k m) (hm : m < t.edges.length) (hdn : (d : Int) = t.edges[m].dst) (hn : far.getD d 0 < 0) :
  FarMid t S (far.set d (far.getD k.toNat 0 + 1)) (todo ++ [(d : Int)]) k (m + 1) ∧ negF (far.set d (far.getD k.toNat 0 + 1)) + 1 = negF far := by
 have hok := hv.edge m hm
 have h3 := hok.d0
 have h4 := hok.d1
 have hd : d < far.length := by rw [h.len]; omega
 have hg : far[d] < 0 := by rw [List.getD_eq_getElem?_getD, List.getElem?_eq_getElem hd] at hn; exact hn
 have hkF := h.kF.2
 unfold hasF at hkF
 have hns := negF_set hd hg (v := far.getD k.toNat 0 + 1) (by omega)
 have hk : k.toNat < far.length := by rw [h.len]; have := h.kF.1; omega
 have hkh := h.high (far.getD k.toNat 0) (by rw [List.getD_eq_getElem?_getD, List.getElem?_eq_getElem hk]; exact List.getElem_mem hk)
 have hup : ∀ x, hasF far x → hasF (far.set d (far.getD k.toNat 0 + 1)) x := fun x hx => by
  unfold hasF at hx ⊢
  rw [getD_setF hd]
  split <;> omega
 have hnew : hasF (far.set d (far.getD k.toNat 0 + 1)) (d : Int) := by
  unfold hasF
  rw [getD_setF hd, Int.toNat_natCast, if_pos rfl]
  omega
 refine ⟨⟨by rw [List.length_set]; exact h.len, fun x hx => ?_, fun x hx => ?_, fun x hx => ?_, hup _ h.initF, ⟨h.kF.1, hup _ h.kF.2⟩, ?_, fun e he hs => ?_, fun e hx hs => ?_⟩, hns⟩
 ·rcases List.mem_or_eq_of_mem_set hx with h1 | h1
  ·exact h.low x h1
  ·omega
 ·rcases List.mem_or_eq_of_mem_set hx with h1 | h1
  ·have := h.high x h1
   omega
  ·omega
 ·rcases List.mem_append.1 hx with hx | hx
  ·exact ⟨(h.todoF x hx).1, hup _ (h.todoF x hx).2⟩
  ·rw [List.mem_singleton] at hx
   subst hx
   exact ⟨by omega, hnew⟩
 ·have := h.size
  rw [List.length_append, List.length_singleton]
  omega
 ·by_cases e9 : e.src = (d : Int)
  ·exact .inl (by rw [e9]; simp)
  ·have hs2 : hasF far e.src := by
    have h5 := (stp_lt hv (x := e.src) (l := e.lab) (y := e.dst) he).s0
    have h6 : 0 ≤ e.src := h5
    unfold hasF at hs ⊢
    rw [getD_setF hd, if_neg (by omega)] at hs
    exact hs
   rcases h.out e he hs2 with h1 | h1 | h1
   ·exact .inl (by simp [h1])
   ·exact .inr (.inl h1)
   ·exact .inr (.inr (hup _ h1))
 ·rw [List.take_succ_eq_append_getElem hm] at hx
  rcases List.mem_append.1 hx with hx | hx
  ·exact hup _ (h.done e hx hs)
  ·rw [List.mem_singleton] at hx
   subst hx
   rw [← hdn]
   exact hnew
theorem FarMid.all {t : Lts} {S : Nat} {far todo : List Int} {k : Int} {m : Nat} (h : FarMid t S far todo k m) (hm : t.edges.length ≤ m) : FarInv t S far todo := by
 refine ⟨h.len, h.low, h.high, h.todoF, h.initF, by have := h.size; omega, fun e he hs => ?_⟩
 rcases h.out e he hs with h1 | h1 | h1
 ·exact .inl h1
 ·exact .inr (h.done e (by rw [List.take_of_length_le hm]; exact he) h1)
 ·exact .inr h1
/-- The states with a number. -/
def reachL (far : List Int) (S : Nat) : List Int := (upI S).filter fun k => !decide (far.getD k.toNat 0 < 0)
theorem reachL_mem {far : List Int} {S : Nat} {x : Int} : x ∈ reachL far S ↔ (0 ≤ x ∧ x < (S : Int)) ∧ hasF far x := by
 unfold reachL hasF upI
 rw [List.mem_filter, List.mem_map]
 constructor
 ·rintro ⟨⟨j, hj, rfl⟩, h⟩
  rw [List.mem_range] at hj
  rw [Bool.not_eq_true', decide_eq_false_iff_not] at h
  exact ⟨by omega, by omega⟩
 ·rintro ⟨h1, h2⟩
  refine ⟨⟨x.toNat, List.mem_range.2 (by omega), by omega⟩, ?_⟩
  rw [Bool.not_eq_true', decide_eq_false_iff_not]
  omega
theorem FarInv.closed {t : Lts} {S : Nat} {far : List Int} (hv : Valid t) (hS : (S : Int) = t.states) (h : FarInv t S far []) : Closed t (reachL far S) ∧ t.initial ∈ reachL far S := by
 refine ⟨⟨fun x hx => ?_, ?_, fun e he hs => ?_⟩, reachL_mem.2 ⟨⟨hv.in0, by have := hv.in1; omega⟩, h.initF⟩⟩
 ·have := (reachL_mem.1 hx).1
  omega
 ·unfold reachL upI
  refine List.Pairwise.sublist List.filter_sublist ?_
  rw [List.pairwise_map]
  exact List.pairwise_lt_range.imp fun {a b} h => by omega
 ·have h4 := stp_lt hv (x := e.src) (l := e.lab) (y := e.dst) he
  have h5 : 0 ≤ e.dst := h4.d0
  have h6 : e.dst < t.states := h4.d1
  rcases h.out e he (reachL_mem.1 hs).2 with h1 | h1
  ·cases h1
  ·exact reachL_mem.2 ⟨by omega, h1⟩

end Go.Proofs.YtdkbbknhighebaaGreatDoor

namespace Go.Proofs.YtdkbbknhighebaaGreatDoor
open Go Go.RowKit

/-- A block with room for c elements of one cell; the first n of them are cs. -/
structure CellsAt (w : World) (g : Nat) (T : TypeId) (n c : Nat) (cs : List Value) : Prop where
 blk : ∃ rest : List Value, Blk w g (cs ++ rest) T ∧ cs.length + rest.length = c
 len : cs.length = n
theorem CellsAt.lt {w : World} {g n c : Nat} {T : TypeId} {cs : List Value} (h : CellsAt w g T n c cs) : g < w.heap.size := by obtain ⟨r, hr, -⟩ := h.blk; exact hr.lt
theorem CellsAt.below {w w' : World} {g n c : Nat} {T : TypeId} {cs : List Value} (h : CellsAt w g T n c cs) (hb : Below w.heap.size w w') : CellsAt w' g T n c cs := by
 obtain ⟨r, hr, hl⟩ := h.blk
 exact ⟨⟨r, hr.below hb, hl⟩, h.len⟩
theorem CellsAt.cell {w : World} {g n c : Nat} {T : TypeId} {cs : List Value} (h : CellsAt w g T n c cs) (i : Nat) (hi : i < n) : w.cell? ⟨g, i, none⟩ = cs[i]? := by
 obtain ⟨r, hr, -⟩ := h.blk
 have hi2 : i < cs.length := by rw [h.len]; exact hi
 rw [hr.cell i (v := cs[i]) (by rw [List.getElem?_append_left hi2, List.getElem?_eq_getElem hi2]), List.getElem?_eq_getElem hi2]
theorem CellsAt.cell_some {w : World} {g n c : Nat} {T : TypeId} {cs : List Value} (h : CellsAt w g T n c cs) (i : Nat) (hi : i < n) : ∃ u, w.cell? ⟨g, i, none⟩ = some u := by
 have hi2 : i < cs.length := by rw [h.len]; exact hi
 exact ⟨cs[i], by rw [h.cell i hi, List.getElem?_eq_getElem hi2]⟩
theorem CellsAt.frozen {w : World} {g n c : Nat} {T : TypeId} {cs : List Value} (h : CellsAt w g T n c cs) (i : Nat) : w.frozen? ⟨g, i, none⟩ = false := by
 obtain ⟨r, hr, -⟩ := h.blk
 exact hr.frozen i
theorem CellsAt.set {w : World} {g n c : Nat} {T : TypeId} {cs : List Value} (h : CellsAt w g T n c cs) (i : Nat) (hi : i < n) (v : Value) : CellsAt (w.setCell ⟨g, i, none⟩ v) g T n c (cs.set i v) := by
 obtain ⟨r, hr, hl⟩ := h.blk
 have hi2 : i < cs.length := by rw [h.len]; exact hi
 refine ⟨⟨r, ?_, by rw [List.length_set]; exact hl⟩, by rw [List.length_set]; exact h.len⟩
 have := hr.set i v
 rwa [List.set_append_left _ _ hi2] at this
theorem CellsAt.sets {g n c : Nat} {T : TypeId} (z : Value) : ∀ (m i : Nat) {w : World} {cs : List Value}, CellsAt w g T n c cs → i + m = n → CellsAt (w.setCells g i (List.replicate m z)) g T n c (cs.take i ++ List.replicate m z)
 | 0, i, w, cs, h, hi => by
  have : cs.take i = cs := List.take_of_length_le (by rw [h.len]; omega)
  rw [List.replicate_zero, List.append_nil, this]
  exact h
 | m + 1, i, w, cs, h, hi => by
  have h1 := CellsAt.sets z m (i + 1) (h.set i (by omega) z) (by omega)
  have hil : i < cs.length := by rw [h.len]; omega
  rw [List.replicate_succ, World.setCells]
  have e : (cs.set i z).take (i + 1) = cs.take i ++ [z] := by
   rw [List.take_succ_eq_append_getElem (by rw [List.length_set]; exact hil), List.getElem_set_self, List.take_set_of_le (Nat.le_refl _)]
  rw [e, List.append_assoc] at h1
  exact h1
theorem CellsAt.clear {w : World} {g n c i : Nat} {T : TypeId} {cs : List Value} {z : Value} (h : CellsAt w g T n c cs) (hi : i < n) : CellsAt (w.setCells g i (List.replicate (n - i) z)) g T n c (cs.take i ++ List.replicate (n - i) z) := CellsAt.sets z (n - i) i h (by omega)
theorem CellsAt.of_owns {w : World} {B g n c : Nat} {T : TypeId} {cs : List Value} (h : w.ownsRow B T 1 (.slice (some ⟨g, 0, none⟩) n c) n cs) : CellsAt w g T n c cs := by
 obtain ⟨h0, ⟨h, -⟩ | ⟨g', cap, cur, e, -, hg, hc, -, hs, ht⟩⟩ := h
 ·cases h
 ·simp only [Value.slice.injEq, Option.some.injEq, Addr.mk.injEq, and_true, true_and] at e
  obtain ⟨rfl, rfl⟩ := e
  rw [Nat.mul_one] at h0 hs ht
  refine ⟨⟨cur.toList.drop n, ?_, ?_⟩, h0⟩
  ·unfold Blk
   rw [← ht, List.take_append_drop]
   simpa using hg
  ·rw [List.length_drop, h0, Array.length_toList, hs]
   omega
theorem CellsAt.owns {w : World} {B g n c m : Nat} {T : TypeId} {cs xs : List Value} (h : CellsAt w g T n c cs) (hx : cs.take m = xs) (hm : m ≤ n) (hB : B ≤ g) (_hn : n ≤ c) (hc : c ≤ 9223372036854775807) : w.ownsRow B T 1 (.slice (some ⟨g, 0, none⟩) m c) m xs := by
 obtain ⟨r, hr, hl⟩ := h.blk
 have hlen := h.len
 refine ⟨by rw [← hx, List.length_take]; omega, .inr ⟨g, c, (cs ++ r).toArray, rfl, hB, hr, by omega, by simpa [maxLen] using hc, by simp; omega, ?_⟩⟩
 rw [Nat.mul_one, List.toList_toArray, List.take_append_of_le_length (by omega)]
 exact hx

/-- The first j elements are looked at; i of them are kept and lie in front; behind, all is as it was. -/
structure KeptIn {α : Type} (P : α → Bool) (xs : List α) (i j : Nat) (con : α → Value) (cs : List Value) : Prop where
 lt : i < j
 len : cs.length = xs.length
 kept : cs.take i = ((xs.take j).filter fun x => !P x).map con
 num : ((xs.take j).filter fun x => !P x).length = i
 high : ∀ k (h : k < xs.length), j ≤ k → cs[k]? = some (con xs[k])
theorem KeptIn.start {α : Type} {P : α → Bool} {xs : List α} {con : α → Value} {k : Nat} (hk : k < xs.length) (hl : ∀ j (h : j < xs.length), j < k → P xs[j] = false) (hp : P xs[k] = true) : KeptIn P xs k (k + 1) con (xs.map con) := by
 have h1 : (xs.take (k + 1)).filter (fun x => !P x) = xs.take k := by
  rw [List.take_succ_eq_append_getElem hk, List.filter_append]
  have h2 : (xs.take k).filter (fun x => !P x) = xs.take k := by
   rw [List.filter_eq_self]
   intro x hx
   obtain ⟨j, hj, rfl⟩ := List.mem_iff_getElem.1 hx
   rw [List.length_take] at hj
   rw [List.getElem_take, hl j (by omega) (by omega)]
   rfl
  rw [h2, List.filter_cons, hp]
  simp
 refine ⟨by omega, by simp, ?_, ?_, fun j hj _ => by rw [List.getElem?_map, List.getElem?_eq_getElem hj]; rfl⟩
 ·rw [h1, List.map_take]
 ·rw [h1, List.length_take]; omega
theorem KeptIn.keep {α : Type} {P : α → Bool} {xs : List α} {con : α → Value} {i j : Nat} {cs : List Value} (h : KeptIn P xs i j con cs) (hj : j < xs.length) (hp : P xs[j] = false) : KeptIn P xs (i + 1) (j + 1) con (cs.set i (con xs[j])) := by
 have hl := h.len
 have hi := h.lt
 have e : (xs.take (j + 1)).filter (fun x => !P x) = (xs.take j).filter (fun x => !P x) ++ [xs[j]] := by
  rw [List.take_succ_eq_append_getElem hj, List.filter_append, List.filter_cons, hp]
  simp
 refine ⟨by omega, by rw [List.length_set]; exact hl, ?_, ?_, fun k hk hjk => ?_⟩
 ·rw [e, List.map_append, ← h.kept, List.take_succ_eq_append_getElem (by rw [List.length_set]; omega), List.getElem_set_self, List.take_set_of_le (Nat.le_refl _)]
  rfl
 ·rw [e, List.length_append, h.num]
  rfl
 ·rw [List.getElem?_set_ne (by omega)]
  exact h.high k hk (by omega)
theorem KeptIn.drop {α : Type} {P : α → Bool} {xs : List α} {con : α → Value} {i j : Nat} {cs : List Value} (h : KeptIn P xs i j con cs) (hj : j < xs.length) (hp : P xs[j] = true) : KeptIn P xs i (j + 1) con cs := by
 have hi := h.lt
 have e : (xs.take (j + 1)).filter (fun x => !P x) = (xs.take j).filter (fun x => !P x) := by
  rw [List.take_succ_eq_append_getElem hj, List.filter_append, List.filter_cons, hp]
  simp
 exact ⟨by omega, h.len, by rw [e]; exact h.kept, by rw [e]; exact h.num, fun k hk hjk => h.high k hk (by omega)⟩
theorem KeptIn.all {α : Type} {P : α → Bool} {xs : List α} {con : α → Value} {i j : Nat} {cs : List Value} (h : KeptIn P xs i j con cs) (hj : xs.length ≤ j) : (xs.filter fun x => !P x).length = i ∧ (xs.filter fun x => !P x).map con = cs.take i := by
 have e : xs.take j = xs := List.take_of_length_le hj
 have h1 := h.kept
 have h2 := h.num
 rw [e] at h1 h2
 exact ⟨h2, h1.symm⟩

end Go.Proofs.YtdkbbknhighebaaGreatDoor

namespace Go.Proofs.YtdkbbknhighebaaGreatDoor
open Go Go.RowKit


section
variable {α : Type}
/-- While the tail is moved up: something at the place k. -/
def shiftG (L : List α) (j : α) (k : Nat) : List α := L.take k ++ j :: L.drop k
theorem shiftG_len {L : List α} (j : α) (k : Nat) : (shiftG L j k).length = L.length + 1 := by
 unfold shiftG
 rw [List.length_append, List.length_cons, ← Nat.add_assoc, ← List.length_append, List.take_append_drop]
theorem shiftG_end (L : List α) (j : α) : L ++ [j] = shiftG L j L.length := by simp [shiftG]
theorem shiftG_get {L : List α} {j : α} {k : Nat} (h1 : 1 ≤ k) (hk : k ≤ L.length) : (shiftG L j k)[k - 1]? = some (L[k - 1]'(by omega)) := by
 unfold shiftG
 rw [List.getElem?_append_left (by rw [List.length_take]; omega), List.getElem?_take, if_pos (by omega), List.getElem?_eq_getElem (by omega)]
theorem shiftG_set {L : List α} {j : α} {k : Nat} (h1 : 1 ≤ k) (hk : k ≤ L.length) : (shiftG L j k).set k (L[k - 1]'(by omega)) = shiftG L (L[k - 1]'(by omega)) (k - 1) := by
 unfold shiftG
 have hl : (L.take k).length = k := by rw [List.length_take]; omega
 rw [List.set_append_right _ _ (by omega), hl, Nat.sub_self, List.set_cons_zero]
 have h2 : L.take k = L.take (k - 1) ++ [L[k - 1]'(by omega)] := by
  have := List.take_succ_eq_append_getElem (l := L) (i := k - 1) (by omega)
  rw [show k - 1 + 1 = k from by omega] at this
  exact this
 have h3 : L.drop (k - 1) = L[k - 1]'(by omega) :: L.drop k := by
  have := List.drop_eq_getElem_cons (l := L) (i := k - 1) (by omega)
  rw [show k - 1 + 1 = k from by omega] at this
  exact this
 rw [h2, h3, List.append_assoc]
 rfl
theorem shiftG_put {L : List α} {j x : α} {k : Nat} (hk : k ≤ L.length) : (shiftG L j k).set k x = L.take k ++ x :: L.drop k := by
 unfold shiftG
 have hl : (L.take k).length = k := by rw [List.length_take]; omega
 rw [List.set_append_right _ _ (by omega), hl, Nat.sub_self, List.set_cons_zero]
end

theorem put_rise {E : List Edge} {e : Edge} {k : Nat} (hr : RiseE E) (hk : k ≤ E.length) (hhi : ∀ j (h : j < E.length), k ≤ j → edgeLess e E[j] = true) (hlo : ∀ h : 0 < k, edgeLess (E[k - 1]'(by omega)) e = true) : RiseE (E.take k ++ e :: E.drop k) := by
 have hp := List.pairwise_iff_getElem.1 hr
 unfold RiseE
 rw [List.pairwise_append, List.pairwise_cons]
 have hdrop : ∀ x ∈ E.drop k, edgeLess e x = true := by
  intro x hx
  obtain ⟨i, hi, rfl⟩ := List.mem_iff_getElem.1 hx
  rw [List.getElem_drop]
  rw [List.length_drop] at hi
  exact hhi _ (by omega) (by omega)
 have htake : ∀ x ∈ E.take k, edgeLess x e = true := by
  intro x hx
  obtain ⟨i, hi, rfl⟩ := List.mem_iff_getElem.1 hx
  rw [List.length_take] at hi
  rw [List.getElem_take]
  have h0 : 0 < k := by omega
  by_cases e1 : i = k - 1
  ·have := hlo h0
   subst e1
   exact this
  ·exact edgeLess_trans _ _ _ (hp i (k - 1) (by omega) (by omega) (by omega)) (hlo h0)
 refine ⟨hr.sublist (List.take_sublist _ _), ⟨hdrop, hr.sublist (List.drop_sublist _ _)⟩, fun a ha b hb => ?_⟩
 rcases List.mem_cons.1 hb with rfl | hb
 ·exact htake a ha
 ·exact edgeLess_trans _ _ _ (htake a ha) (hdrop b hb)
theorem put_mem {E : List Edge} {e : Edge} {k : Nat} (x : Edge) : x ∈ E.take k ++ e :: E.drop k ↔ x ∈ E ∨ x = e := by
 rw [List.mem_append, List.mem_cons]
 have h : x ∈ E ↔ x ∈ E.take k ∨ x ∈ E.drop k := by rw [← List.mem_append, List.take_append_drop]
 rw [h]
 constructor
 ·rintro (h | h | h)
  ·exact .inl (.inl h)
  ·exact .inr h
  ·exact .inl (.inr h)
 ·rintro ((h | h) | h)
  ·exact .inl h
  ·exact .inr (.inr h)
  ·exact .inr (.inl h)
theorem put_len {E : List Edge} (e : Edge) (k : Nat) : (E.take k ++ e :: E.drop k).length = E.length + 1 := by
 have := shiftG_len (L := E) e k
 unfold shiftG at this
 exact this

theorem flat_set : ∀ (E : List Edge) (k : Nat) (x : Edge), k < E.length → (((E.flatMap encE).set (k * 3) (.int .i64 x.src)).set (k * 3 + 1) (.int .i64 x.lab)).set (k * 3 + 2) (.int .i64 x.dst) = (E.set k x).flatMap encE
 | [], _, _, h => by simp at h
 | a :: E, 0, x, _ => by simp [encE]
 | a :: E, k + 1, x, h => by
  have ih := flat_set E k x (by simpa using h)
  rw [show (k + 1) * 3 = k * 3 + 3 from by omega]
  simp only [List.flatMap_cons, encE, List.cons_append, List.nil_append, List.set_cons_succ, List.cons.injEq, true_and]
  exact ih
theorem flat_len (E : List Edge) : (E.flatMap encE).length = E.length * 3 := by
 induction E with
 | nil => rfl
 | cons a r ih => rw [List.flatMap_cons, List.length_append, ih, encE_len, List.length_cons]; omega
theorem flat_get : ∀ (E : List Edge) (k : Nat) (h : k < E.length), (E.flatMap encE)[k * 3]? = some (.int .i64 E[k].src) ∧ (E.flatMap encE)[k * 3 + 1]? = some (.int .i64 E[k].lab) ∧ (E.flatMap encE)[k * 3 + 2]? = some (.int .i64 E[k].dst)
 | [], _, h => by simp at h
 | a :: E, 0, _ => by simp [encE]
 | a :: E, k + 1, h => by
  have ih := flat_get E k (by simpa using h)
  rw [show (k + 1) * 3 = k * 3 + 3 from by omega]
  simpa [List.flatMap_cons, encE] using ih

theorem CellsAt.of_owns3 {w : World} {B g n c : Nat} {T : TypeId} {cs : List Value} (h : w.ownsRow B T 3 (.slice (some ⟨g, 0, none⟩) n c) n cs) : CellsAt w g T (n * 3) (c * 3) cs := by
 obtain ⟨h0, ⟨h, -⟩ | ⟨g', cap, cur, e, -, hg, hc, -, hs, ht⟩⟩ := h
 ·cases h
 ·simp only [Value.slice.injEq, Option.some.injEq, Addr.mk.injEq, and_true, true_and] at e
  obtain ⟨rfl, rfl⟩ := e
  refine ⟨⟨cur.toList.drop (n * 3), ?_, ?_⟩, h0⟩
  ·unfold Blk
   rw [← ht, List.take_append_drop]
   simpa using hg
  ·rw [List.length_drop, h0, Array.length_toList, hs]
   omega
theorem CellsAt.owns3 {w : World} {B g n c : Nat} {T : TypeId} {cs : List Value} (h : CellsAt w g T (n * 3) (c * 3) cs) (hB : B ≤ g) (hn : n ≤ c) (hc : c ≤ 9223372036854775807) : w.ownsRow B T 3 (.slice (some ⟨g, 0, none⟩) n c) n cs := by
 obtain ⟨r, hr, hl⟩ := h.blk
 have hlen := h.len
 refine ⟨hlen, .inr ⟨g, c, (cs ++ r).toArray, rfl, hB, hr, hn, by simpa [maxLen] using hc, by simp; omega, ?_⟩⟩
 rw [List.toList_toArray, List.take_append_of_le_length (by omega), List.take_of_length_le (by omega)]
/-- The edges in a block of the call's own. -/
def EdgesAt (w : World) (g n c : Nat) (E : List Edge) : Prop := CellsAt w g 47 (n * 3) (c * 3) (E.flatMap encE)
theorem EdgesAt.put {w : World} {g n c : Nat} {E : List Edge} (h : EdgesAt w g n c E) (hn : E.length = n) {k : Nat} (hk : k < n) (x : Edge) :
  EdgesAt (((w.setCell ⟨g, k * 3, none⟩ (.int .i64 x.src)).setCell ⟨g, k * 3 + 1, none⟩ (.int .i64 x.lab)).setCell ⟨g, k * 3 + 2, none⟩ (.int .i64 x.dst)) g n c (E.set k x) := by
 unfold EdgesAt at h ⊢
 rw [← flat_set E k x (by omega)]
 exact ((h.set (k * 3) (by omega) _).set (k * 3 + 1) (by omega) _).set (k * 3 + 2) (by omega) _
theorem EdgesAt.get {w : World} {g n c : Nat} {E : List Edge} (h : EdgesAt w g n c E) (hn : E.length = n) {k : Nat} (hk : k < n) {x : Edge} (hx : E[k]? = some x) : w.cell? ⟨g, k * 3, none⟩ = some (.int .i64 x.src) ∧ w.cell? ⟨g, k * 3 + 1, none⟩ = some (.int .i64 x.lab) ∧ w.cell? ⟨g, k * 3 + 2, none⟩ = some (.int .i64 x.dst) := by
 have hk2 : k < E.length := by omega
 obtain ⟨h1, h2, h3⟩ := flat_get E k hk2
 rw [List.getElem?_eq_getElem hk2] at hx
 cases hx
 exact ⟨by rw [CellsAt.cell h _ (by omega)]; exact h1, by rw [CellsAt.cell h _ (by omega)]; exact h2, by rw [CellsAt.cell h _ (by omega)]; exact h3⟩
/-- Written in one block only. -/
theorem grown_sets {w w' : World} {g a b c : Nat} {x y z : Value} {row : Option Nat} (h : w.grownBy w' row) (hg : row = some g ∨ w.heap.size ≤ g) : w.grownBy (((w'.setCell ⟨g, a, none⟩ x).setCell ⟨g, b, none⟩ y).setCell ⟨g, c, none⟩ z) row := by
 have one : ∀ {w1 : World} (p : Nat) (u : Value), w.grownBy w1 row → w.grownBy (w1.setCell ⟨g, p, none⟩ u) row := by
  intro w1 p u h1
  have h2 := grown_setCell w1 ⟨g, p, none⟩ u
  refine ⟨h2.os.trans h1.os, h2.tape.trans h1.tape, h2.output.trans h1.output, Nat.le_trans h1.size h2.size, fun k hk hne => ?_⟩
  rw [h2.block k (Nat.lt_of_lt_of_le hk h1.size) (by
   intro e
   simp only [Option.some.injEq] at e
   rcases hg with hg | hg
   ·exact hne (by rw [hg, e])
   ·omega)]
  exact h1.block k hk hne
 exact one _ _ (one _ _ (one _ _ h))

end Go.Proofs.YtdkbbknhighebaaGreatDoor

namespace Go.Proofs.YtdkbbknhighebaaGreatDoor
open Go Go.RowKit Go.Sort


def sortEs (es : List Edge) : List Edge := es.mergeSort fun x y => !edgeLess y x
theorem sortEs_mem {es : List Edge} (x : Edge) : x ∈ sortEs es ↔ x ∈ es := by unfold sortEs; exact List.mem_mergeSort
theorem sortEs_len (es : List Edge) : (sortEs es).length = es.length := by unfold sortEs; exact List.length_mergeSort _
theorem flatK_edges (E : List Edge) : (flatK encE 3 E.toArray).toList = E.flatMap encE := by
 apply List.ext_getElem?
 intro t
 by_cases h : t < E.length * 3
 ·have hs : t < (flatK encE 3 E.toArray).size := by simpa using h
  have hq : t / 3 < E.length := by omega
  obtain ⟨a, b, c⟩ := flat_get E (t / 3) hq
  have h1 := get_flatK encE 3 E.toArray t (by simpa using h)
  rw [getElem!_pos _ t hs] at h1
  rw [Array.getElem?_toList, Array.getElem?_eq_getElem hs, h1]
  have hq2 : E.toArray[t / 3]! = E[t / 3] := by rw [getElem!_pos E.toArray (t / 3) (by simpa using hq)]; simp
  rw [hq2]
  have h3 : t % 3 = 0 ∨ t % 3 = 1 ∨ t % 3 = 2 := by omega
  rcases h3 with h3 | h3 | h3
  ·rw [h3]
   rw [show t / 3 * 3 = t from by omega] at a
   rw [a]
   rfl
  ·rw [h3]
   rw [show t / 3 * 3 + 1 = t from by omega] at b
   rw [b]
   rfl
  ·rw [h3]
   rw [show t / 3 * 3 + 2 = t from by omega] at c
   rw [c]
   rfl
 ·rw [List.getElem?_eq_none (by rw [Array.length_toList]; simp; omega), List.getElem?_eq_none (by rw [flat_len]; omega)]
theorem heap_sortedG {w : World} {g n : Nat} {os : Array Obj} {cur : Array Value} {e : TypeId} {fr : Nat × Nat} (d : Array Value) (hb : w.heap[g]? = some (.cells cur e fr)) :
  (grow (putRow id (Sort.ahead w n) g 0 d) os).heap[g]? = some (.cells (putCells id 0 d cur) e fr) := by
 have hg : g < w.heap.size := (Array.getElem?_eq_some_iff.1 hb).1
 rw [heap_grow_old _ _ (by simpa using hg)]
 simp [putRow, mapBlock, Sort.ahead, Array.getElem?_modify, hb, onCells]
theorem grownBy_sortedG {w : World} {g n : Nat} {os : Array Obj} (d : Array Value) : w.grownBy (grow (putRow id (Sort.ahead w n) g 0 d) os) (some g) := by
 refine ⟨rfl, rfl, rfl, by simp, fun k hk hne => ?_⟩
 rw [heap_grow_old _ _ (by simpa using hk)]
 have : g ≠ k := fun e => hne (by rw [e])
 simp [putRow, mapBlock, Sort.ahead, Array.getElem?_modify, this]
theorem take_putCellsG (cur : Array Value) (d : Array Value) (h : d.size ≤ cur.size) : (putCells id 0 d cur).toList.take d.size = d.toList := by
 apply List.ext_getElem?
 intro j
 by_cases hj : j < d.size
 ·rw [List.getElem?_take_of_lt hj, Array.getElem?_toList, Array.getElem?_toList]
  simp [putCells, hj, show j < cur.size by omega]
 ·rw [List.getElem?_take_eq_none (by omega), List.getElem?_eq_none (by simp; omega)]

theorem SortEs_own (base : Nat) (v : Value) (es : List Edge) (w : World) (ho : w.ownsRow base 47 3 v es.length (es.flatMap encE)) (hz : es.length ≤ 1048576) :
  Calls Tryz.prog 37 #[v, .func (.func 33) #[] #[]] w fun e w' => e = .returned (.tuple #[]) ∧ w'.ownsRow base 47 3 v es.length ((sortEs es).flatMap encE) ∧ w.grownBy w' v.ownBlock := by
 rcases ho.2 with ⟨rfl, h0⟩ | ⟨g, cap, cur, rfl, hb, hg, hn, hm, hs, ht⟩
 ·have hx : es = [] := List.eq_nil_of_length_eq_zero h0
  subst hx
  refine Calls.mono (R := fun e w' => e = .returned (.tuple #[]) ∧ w' = w) (Tryz.slices_SortFunc_edges_none (α := Edge) none 0 _ w) ?_
  rintro e w' ⟨rfl, rfl⟩
  exact ⟨rfl, by simpa [sortEs] using ho, grown_refl _ _⟩
 ·have hH := holdsE_of_own ho rfl
  have hz2 : es.toArray.size = es.length := by simp
  have hc := Tryz.slices_SortFunc_edges (α := Edge) 3 isAggE sizeOfE encE encE_len (fun x v hv => by simp [encE] at hv; rcases hv with rfl | rfl | rfl <;> rfl) cmpE swoE 33 #[] g 0 cap es.toArray w enters_cmpE
   (fun m os dk _ x y => (compareEdges_more x y _).mono fun e w' ⟨h1, h2, h3⟩ => ⟨h1, grow_of_below h2 h3⟩) hH (Array.getElem?_eq_some_iff.1 hg).1 (by rw [hz2]; omega) (by rw [ltOf_cmpE]; exact edgeLess_tri)
  rw [hz2, ltOf_cmpE] at hc
  refine hc.mono ?_
  rintro e w' ⟨rfl, n, os, rfl⟩
  have hF := flatK_edges (sortEs es)
  have hFs : (flatK encE 3 (sortEs es).toArray).size = es.length * 3 := by rw [size_flatK]; simp [sortEs_len]
  refine ⟨rfl, ⟨by rw [flat_len, sortEs_len], .inr ⟨g, cap, _, rfl, hb, heap_sortedG (flatK encE 3 (sortEs es).toArray) hg, hn, hm, by simp [putCells, hs], ?_⟩⟩, grownBy_sortedG _⟩
  rw [← hFs, take_putCellsG _ _ (by rw [hFs, hs]; omega), hF]

end Go.Proofs.YtdkbbknhighebaaGreatDoor

namespace Go.Proofs.YtdkbbknhighebaaGreatDoor
open Go Go.RowKit

/-- The first place of an item, or the length. -/
def fstIx {α : Type} [DecidableEq α] : List α → α → Nat
 | [], _ => 0
 | y :: l, x => if y = x then 0 else fstIx l x + 1
theorem fstIx_lt {α : Type} [DecidableEq α] : ∀ {l : List α} {x : α}, x ∈ l → fstIx l x < l.length
 | [], _, h => by cases h
 | y :: l, x, h => by
  unfold fstIx
  split
  ·exact Nat.succ_pos _
  ·next hn =>
   rcases List.mem_cons.1 h with e | e
   ·exact absurd e.symm hn
   ·exact Nat.succ_lt_succ (fstIx_lt e)
theorem fstIx_not {α : Type} [DecidableEq α] : ∀ {l : List α} {x : α}, x ∉ l → fstIx l x = l.length
 | [], _, _ => rfl
 | y :: l, x, h => by
  have h1 : ¬ y = x := fun e => h (by rw [e]; exact List.mem_cons_self ..)
  unfold fstIx
  rw [if_neg h1, fstIx_not fun k => h (List.mem_cons_of_mem _ k)]
  rfl
theorem fstIx_get {α : Type} [DecidableEq α] : ∀ {l : List α} {x : α}, x ∈ l → l[fstIx l x]? = some x
 | [], _, h => by cases h
 | y :: l, x, h => by
  unfold fstIx
  by_cases e : y = x
  ·rw [if_pos e, e]; rfl
  ·rw [if_neg e]
   rcases List.mem_cons.1 h with k | k
   ·exact absurd k.symm e
   ·exact fstIx_get k
theorem fstIx_first {α : Type} [DecidableEq α] : ∀ {l : List α} {x : α} {j : Nat}, j < fstIx l x → l[j]? ≠ some x
 | [], _, j, h => by simp
 | y :: l, x, j, h => by
  unfold fstIx at h
  by_cases e : y = x
  ·rw [if_pos e] at h; cases h
  ·rw [if_neg e] at h
   cases j with
   | zero => simpa using e
   | succ j => exact fstIx_first (l := l) (Nat.lt_of_succ_lt_succ h)
theorem fstIx_eq {α : Type} [DecidableEq α] {l : List α} {x : α} {i : Nat} (h : l[i]? = some x) (hf : ∀ j, j < i → l[j]? ≠ some x) : fstIx l x = i := by
 have h1 := fstIx_get (List.mem_of_getElem? h)
 rcases Nat.lt_trichotomy (fstIx l x) i with k | k | k
 ·exact absurd h1 (hf _ k)
 ·exact k
 ·exact absurd h (fstIx_first k)
theorem fstIx_append {α : Type} [DecidableEq α] {l m : List α} {x : α} (h : x ∈ l) : fstIx (l ++ m) x = fstIx l x := by
 have h1 := fstIx_lt h
 refine fstIx_eq ?_ fun j hj => ?_
 ·rw [List.getElem?_append_left h1]; exact fstIx_get h
 ·rw [List.getElem?_append_left (by omega)]; exact fstIx_first hj
theorem fstIx_inj {α : Type} [DecidableEq α] {l : List α} {x y : α} (hx : x ∈ l) (hy : y ∈ l) (h : fstIx l x = fstIx l y) : x = y := by
 have h1 := fstIx_get hx
 rw [h, fstIx_get hy] at h1
 exact (Option.some.inj h1).symm

/-- The items in the order of their first sight. -/
def addNew (acc : List Int) (x : Int) : List Int := if x ∈ acc then acc else acc ++ [x]
def firsts (l : List Int) : List Int := l.foldl addNew []
theorem firsts_snoc (l : List Int) (x : Int) : firsts (l ++ [x]) = addNew (firsts l) x := by unfold firsts; rw [List.foldl_append]; rfl
theorem fold_grows : ∀ (m acc : List Int), ∃ t, m.foldl addNew acc = acc ++ t
 | [], acc => ⟨[], by simp⟩
 | x :: m, acc => by
  obtain ⟨t, ht⟩ := fold_grows m (addNew acc x)
  have : ∃ s, addNew acc x = acc ++ s := by
   unfold addNew
   by_cases h : x ∈ acc
   ·rw [if_pos h]; exact ⟨[], by simp⟩
   ·rw [if_neg h]; exact ⟨[x], rfl⟩
  obtain ⟨s, hs⟩ := this
  refine ⟨s ++ t, ?_⟩
  rw [List.foldl_cons, ht, hs, List.append_assoc]
theorem firsts_append (l m : List Int) : ∃ t, firsts (l ++ m) = firsts l ++ t := by
 unfold firsts; rw [List.foldl_append]; exact fold_grows m _
theorem firsts_mem : ∀ (l : List Int) (x : Int), x ∈ firsts l ↔ x ∈ l := by
 have h : ∀ (m acc : List Int) (x : Int), x ∈ m.foldl addNew acc ↔ x ∈ acc ∨ x ∈ m := by
  intro m
  induction m with
  | nil => intro acc x; simp
  | cons y m ih =>
   intro acc x
   rw [List.foldl_cons, ih]
   have : x ∈ addNew acc y ↔ x ∈ acc ∨ x = y := by
    unfold addNew
    by_cases h : y ∈ acc
    ·rw [if_pos h]
     exact ⟨.inl, fun k => k.elim id fun e => e ▸ h⟩
    ·rw [if_neg h, List.mem_append, List.mem_singleton]
   rw [this, List.mem_cons, or_assoc]
 intro l x
 unfold firsts
 rw [h]
 simp
theorem firsts_len : ∀ (l : List Int), (firsts l).length ≤ l.length := by
 have h : ∀ (m acc : List Int), (m.foldl addNew acc).length ≤ acc.length + m.length := by
  intro m
  induction m with
  | nil => intro acc; simp
  | cons y m ih =>
   intro acc
   rw [List.foldl_cons]
   refine Nat.le_trans (ih _) ?_
   have : (addNew acc y).length ≤ acc.length + 1 := by
    unfold addNew
    by_cases h : y ∈ acc
    ·rw [if_pos h]; omega
    ·rw [if_neg h]; simp
   rw [List.length_cons]; omega
 intro l
 have := h l []
 unfold firsts
 simpa using this
/-- Numbers by first sight. -/
def normL (l : List Int) : List Int := l.map fun x => (fstIx (firsts l) x : Int)
theorem normL_len (l : List Int) : (normL l).length = l.length := by simp [normL]
theorem normL_get {l : List Int} {i : Nat} (h : i < l.length) : (normL l)[i]? = some (fstIx (firsts l) l[i] : Int) := by
 unfold normL; rw [List.getElem?_map, List.getElem?_eq_getElem h]; rfl
theorem normL_at {l : List Int} {i : Nat} (h : i < l.length) : (normL l)[i]? = some (fstIx (firsts (l.take i)) l[i] : Int) := by
 rw [normL_get h]
 have e : l = (l.take i ++ [l[i]]) ++ l.drop (i + 1) := by
  rw [List.append_assoc, List.singleton_append, ← List.drop_eq_getElem_cons h, List.take_append_drop]
 obtain ⟨t, ht⟩ := firsts_append (l.take i ++ [l[i]]) (l.drop (i + 1))
 rw [← e] at ht
 have hm : l[i] ∈ firsts (l.take i ++ [l[i]]) := (firsts_mem _ _).2 (List.mem_append.2 (.inr (List.mem_singleton.2 rfl)))
 rw [ht, fstIx_append hm, firsts_snoc]
 unfold addNew
 by_cases hx : l[i] ∈ firsts (l.take i)
 ·rw [if_pos hx]
 ·rw [if_neg hx, fstIx_not hx]
  congr 2
  refine fstIx_eq ?_ fun j hj hk => ?_
  ·simp
  ·rw [List.getElem?_append_left hj] at hk
   exact hx (List.mem_of_getElem? hk)
theorem normL_range {l : List Int} {x : Int} (h : x ∈ normL l) : 0 ≤ x ∧ x < (l.length : Int) := by
 obtain ⟨y, hy, rfl⟩ := List.mem_map.1 h
 have h1 := fstIx_lt ((firsts_mem l y).2 hy)
 have h2 := firsts_len l
 omega
theorem normL_same {l : List Int} {i j : Nat} (hi : i < l.length) (hj : j < l.length) : (normL l)[i]'(by rw [normL_len]; exact hi) = (normL l)[j]'(by rw [normL_len]; exact hj) ↔ l[i] = l[j] := by
 have h1 := normL_get hi
 have h2 := normL_get hj
 rw [List.getElem?_eq_getElem (by rw [normL_len]; exact hi)] at h1
 rw [List.getElem?_eq_getElem (by rw [normL_len]; exact hj)] at h2
 rw [Option.some.inj h1, Option.some.inj h2]
 constructor
 ·intro h
  exact fstIx_inj ((firsts_mem _ _).2 (List.getElem_mem hi)) ((firsts_mem _ _).2 (List.getElem_mem hj)) (by omega)
 ·intro h; rw [h]
end Go.Proofs.YtdkbbknhighebaaGreatDoor

namespace Go.Proofs.YtdkbbknhighebaaGreatDoor
open Go Go.RowKit

/-- The rows lie in blocks of another type than t. -/
theorem own_type_ne {w : World} {base e size n : Nat} {v : Value} {xs : List Value} (h : w.ownsRow base e size v n xs) {b : Nat} {cs : Array Value} {t : TypeId} {f : Nat × Nat} (hb : w.heap[b]? = some (.cells cs t f)) (he : e ≠ t) : v.ownBlock = none ∨ v.ownBlock ≠ some b := by
 rcases h.2 with ⟨rfl, -⟩ | ⟨g, c, u, rfl, -, hg, -⟩
 ·exact .inl rfl
 ·refine .inr fun e1 => ?_
  simp only [Value.ownBlock, Option.some.injEq] at e1
  subst e1
  rw [hb] at hg
  simp only [Option.some.injEq, Obj.cells.injEq] at hg
  exact he hg.2.1.symm
theorem own_map_ne {w : World} {base e size n : Nat} {v : Value} {xs : List Value} (h : w.ownsRow base e size v n xs) {b : Nat} {es : Array MapEntry} {c : Nat} (hb : w.heap[b]? = some (.map es c)) : v.ownBlock = none ∨ v.ownBlock ≠ some b := by
 rcases h.2 with ⟨rfl, -⟩ | ⟨g, c, u, rfl, -, hg, -⟩
 ·exact .inl rfl
 ·refine .inr fun e1 => ?_
  simp only [Value.ownBlock, Option.some.injEq] at e1
  subst e1
  rw [hb] at hg
  cases hg

end Go.Proofs.YtdkbbknhighebaaGreatDoor

namespace Go.Proofs.YtdkbbknhighebaaGreatDoor
open Go Go.RowKit


theorem Index_ints (lo : Nat) (v : Value) (x : Int) (xs : List Int) (w : World) (hv : SliceK 1 encI lo w v xs) :
  Calls Tryz.prog 35 #[v, .int .i64 x] w fun e w' => ∃ r : Int, e = .returned (.int .i64 r) ∧ decide (0 ≤ r) = xs.any (fun y => y == x) ∧ w = w' := by
 obtain ⟨a, c, rfl, hcn, hcc, hrow⟩ := hv
 go_enter Tryz.func35, Tryz.ntmps35
 go_wp2_with fail
 go_loop [8] (fun i => ∃ k : Nat, k ≤ xs.length ∧ i = .int .i64 k ∧ ∀ j (h : j < xs.length), j < k → (x == xs[j]) = false) (fun i => xs.length - (intOf i).toNat)
 case atStart => exact ⟨0, Nat.zero_le _, rfl, fun _ _ h => by omega⟩
 case round =>
  obtain ⟨k, hk, rfl, ha⟩ := hrel
  have HA := Lib.hid ha
  clear ha
  by_cases hlt : k < xs.length
  ·obtain ⟨b1, o1, rfl, -, hbs, c1⟩ := hrow.one hlt
   simp only [encI, List.getElem?_cons_zero] at c1
   clear hrow
   cases h0 : (x == xs[k])
   ·have H0 := Lib.hid h0
    go_wp2_with fail
    go_round
    case rel => exact ⟨k + 1, by omega, by go_num, fun j h hj => by
     by_cases e : j = k
     ·subst e; exact H0.out
     ·exact HA.out j h (by omega)⟩
    case measure => simp [intOf]; omega
   ·have HF : Hid (xs.any (fun y => y == x) = true) := by
     unfold Hid
     rw [List.any_eq_true]
     exact ⟨xs[k], List.getElem_mem _, by rw [beq_iff_eq] at h0 ⊢; exact h0.symm⟩
    go_wp2_with fail
    go_ret
    exact ⟨_, rfl, by rw [HF.out]; simp, rfl⟩
  ·clear hrow
   go_wp2_with fail
   go_ret
   refine ⟨_, rfl, ?_, rfl⟩
   have : xs.any (fun y => y == x) = false := by
    rw [List.any_eq_false]
    intro y hy
    obtain ⟨j, hj, rfl⟩ := List.mem_iff_getElem.1 hy
    have := HA.out j hj (by omega)
    simp at this ⊢
    exact fun e => this e.symm
   rw [this]; simp

theorem Contains_ints (lo : Nat) (v : Value) (x : Int) (xs : List Int) (w : World) (hv : SliceK 1 encI lo w v xs) :
  Calls Tryz.prog 145 #[v, .int .i64 x] w fun e w' => e = .returned (.bool (xs.any fun y => y == x)) ∧ w = w' := by
 have HV := Lib.hid hv
 clear hv
 go_enter Tryz.func145, Tryz.ntmps145
 go_wp2_with fail
 refine (Index_ints lo v x xs _ HV.out).mono ?_
 rintro e w' ⟨r, rfl, hr, rfl⟩
 have HR := Lib.hid hr
 clear hr
 go_wp2_with fail
 go_ret
 exact ⟨ret_bool HR.out, rfl⟩

end Go.Proofs.YtdkbbknhighebaaGreatDoor

namespace Go.Proofs.YtdkbbknhighebaaGreatDoor
open Go Go.RowKit


theorem info_int64f : (Tryz.prog.info? 2).map (fun i => (i.zero, i.size, i.bytes)) = some (some (.int .i64 0), 1, 8) := by kernel_rfl

/-- An edge with the label from one of the states. -/
def hitS (p : Lts) (cur : List Int) (l : ByteArray) (e : Edge) : Bool := (cur.any fun y => y == e.src) && ((labAt p e).toList == l.toList)
def followR (p : Lts) (cur : List Int) (l : ByteArray) : List Int := (p.edges.filter (hitS p cur l)).map Edge.dst
def followL (p : Lts) (cur : List Int) (l : ByteArray) : List Int := Lib.compact ((followR p cur l).mergeSort fun x y => decide (x ≤ y))
theorem hitS_take {p : Lts} {cur : List Int} {l : ByteArray} {k : Nat} (h : k < p.edges.length) (g : hitS p cur l p.edges[k] = true) :
  ((p.edges.take (k + 1)).filter (hitS p cur l)).map Edge.dst = ((p.edges.take k).filter (hitS p cur l)).map Edge.dst ++ [p.edges[k].dst] := by
 rw [List.take_succ_eq_append_getElem h, List.filter_append, List.map_append]
 simp [g]
theorem missS_take {p : Lts} {cur : List Int} {l : ByteArray} {k : Nat} (h : k < p.edges.length) (g : hitS p cur l p.edges[k] = false) :
  ((p.edges.take (k + 1)).filter (hitS p cur l)).map Edge.dst = ((p.edges.take k).filter (hitS p cur l)).map Edge.dst := by
 rw [List.take_succ_eq_append_getElem h, List.filter_append, List.map_append]
 simp [g]

set_option maxRecDepth 100000 in
set_option maxHeartbeats 2000000 in
theorem follow_any (lo lo2 : Nat) (p : Lts) (lv ev sv : Value) (cur : List Int) (l : ByteArray) (w : World) (hvp : Valid p) (hl : SliceK 1 encS lo w lv p.labels) (he : SliceK 3 encE lo w ev p.edges) (hs : SliceK 1 encI lo2 w sv cur) :
  Calls Tryz.prog 119 #[.agg #[.int .i64 p.states, .int .i64 p.initial, lv, ev], sv, .string l] w (MadeNums (followL p cur l) w) := by
 have HS := Lib.hid hs
 have HE := Lib.hid hvp.edge
 have hmost := hvp.most
 clear hs hvp
 obtain ⟨al, cl, rfl, hln, hlc, hlr⟩ := hl
 obtain ⟨ae, ce, rfl, hen, hec, hrow⟩ := he
 have HLR := Lib.hid hlr
 have HER := Lib.hid hrow
 clear hlr hrow
 obtain ⟨i0, hi, hz0, hz1, hz2⟩ := info_parts info_int64f
 have HB0 : Hid (Below w.heap.size w (w.alloc (.cells #[.int .i64 p.states, .int .i64 p.initial, .slice al p.labels.length cl, .slice ae p.edges.length ce] 27))) := (Below.refl _ _).alloc (Nat.le_refl _) _
 have HQ2 : Hid ((w.alloc (.cells #[.int .i64 p.states, .int .i64 p.initial, .slice al p.labels.length cl, .slice ae p.edges.length ce] 27)).cell? ⟨w.heap.size, 2, none⟩ = some (.slice al p.labels.length cl)) := by unfold Hid; simp
 obtain ⟨wB, hwB⟩ : ∃ wB, wB = w.alloc (.cells #[.int .i64 p.states, .int .i64 p.initial, .slice al p.labels.length cl, .slice ae p.edges.length ce] 27) := ⟨_, rfl⟩
 have hwz : wB.heap.size = w.heap.size + 1 := by rw [hwB]; simp
 rw [← hwB] at HB0 HQ2
 have HWB := Lib.hid hwB
 clear hwB
 go_enter Tryz.func119, Tryz.ntmps119
 go_wp2_with fail
 rw [← HWB.out]
 clear HWB
 go_loopw [7, 13] (fun v i wr => ∃ k : Nat, k ≤ p.edges.length ∧ i = .int .i64 k ∧ Below wB.heap.size wB wr ∧ wr.ownsRow wB.heap.size 2 1 v (((p.edges.take k).filter (hitS p cur l)).map Edge.dst).length ((((p.edges.take k).filter (hitS p cur l)).map Edge.dst).map (Value.int .i64))) (fun _ i _ => p.edges.length - (intOf i).toNat)
 case atStart => exact ⟨0, Nat.zero_le _, rfl, Below.refl _ _, World.ownsRow_nil _ _ _ _⟩
 case round =>
  obtain ⟨k, hk, rfl, hbl, ho⟩ := hrel
  have HBL := Lib.hid hbl
  have HO := Lib.hid ho
  have hsz := hbl.size
  have q2 := keeps hbl (by omega) HQ2.out
  have hwr : w.heap.size < wr.heap.size := by omega
  have hfl : (((p.edges.take k).filter (hitS p cur l)).map Edge.dst).length ≤ k := by rw [List.length_map]; exact Nat.le_trans (List.length_filter_le _ _) (List.length_take_le _ _)
  clear hbl ho
  by_cases hlt : k < p.edges.length
  ·have hbr := HB0.out.trans (HBL.out.mono HB0.out.size)
   obtain ⟨be, oe, rfl, -, hbe, e1, e2, e3⟩ := (HER.out.below hbr).edge hlt
   have hek := HE.out k hlt
   obtain ⟨hll, hla⟩ := labAt_idx hek
   obtain ⟨bl, ol, rfl, -, hbl2, c1⟩ := (HLR.out.below hbr).one hll
   simp only [encS, List.getElem?_cons_zero] at c1
   rw [← hla] at c1
   have hl0 : ((p.edges[k].lab.toNat : Nat) : Int) = p.edges[k].lab := by have := hek.l0; omega
   have hl1 := hek.l1
   have hl2 := hek.l0
   obtain ⟨e, hee⟩ : ∃ e, e = p.edges[k] := ⟨_, rfl⟩
   obtain ⟨m, hm⟩ : ∃ m, m = p.edges[k].lab.toNat := ⟨_, rfl⟩
   rw [← hm] at c1 hl0 hll
   rw [← hee] at e1 e2 e3 c1 hl0 hl1 hl2
   have HEE := Lib.hid hee
   rw [← hl0] at e2
   have HBA : Hid (Below wB.heap.size wB (wr.alloc (.cells #[.int .i64 e.src, .int .i64 m, .int .i64 e.dst] 47))) := HBL.out.alloc hsz _
   have HSA : Hid (SliceK 1 encI lo2 (wr.alloc (.cells #[.int .i64 e.src, .int .i64 m, .int .i64 e.dst] 47)) sv cur) := HS.out.below (hbr.alloc hbr.size _)
   have HOA : Hid ((wr.alloc (.cells #[.int .i64 e.src, .int .i64 m, .int .i64 e.dst] 47)).ownsRow wB.heap.size 2 1 u7 (((p.edges.take k).filter (hitS p cur l)).map Edge.dst).length ((((p.edges.take k).filter (hitS p cur l)).map Edge.dst).map (Value.int .i64))) := HO.out.alloc _
   have hml : (m : Int) < (p.labels.length : Int) := by omega
   clear hl0 hl1 hl2 hek hbr hla
   cases g1 : ((labAt p e).toList == l.toList)
   ·have HG : Hid (hitS p cur l p.edges[k] = false) := by unfold Hid hitS; rw [← hee, g1, Bool.and_false]
    clear hee hm
    go_wp2_with fail
    go_roundw
    case rel => exact ⟨k + 1, by omega, by go_num, HBA.out, by rw [missS_take hlt HG.out]; exact HOA.out⟩
    case measure => simp [intOf]; omega
   ·cases g2 : (cur.any fun y => y == e.src)
    ·have HG : Hid (hitS p cur l p.edges[k] = false) := by
      unfold Hid hitS
      rw [← hee, g2, Bool.false_and]
     have HG2 := Lib.hid g2
     clear hee hm g2
     go_wp2_with fail
     refine (Contains_ints lo2 _ _ cur _ HSA.out).mono ?_
     rintro e' w' ⟨rfl, rfl⟩
     rw [HG2.out]
     go_wp2_with fail
     go_roundw
     case rel => exact ⟨k + 1, by omega, by go_num, HBA.out, by rw [missS_take hlt HG.out]; exact HOA.out⟩
     case measure => simp [intOf]; omega
    ·have HG : Hid (hitS p cur l p.edges[k] = true) := by
      unfold Hid hitS
      rw [← hee, g2, g1]; rfl
     have HG2 := Lib.hid g2
     have HD : Hid (p.edges[k].dst = e.dst) := by unfold Hid; rw [← hee]
     clear hee hm g2
     have hfz := hfl
     generalize hfs : ((p.edges.take k).filter (hitS p cur l)).map Edge.dst = fs at *
     have HFS := Lib.hid hfs
     clear hfs
     go_wp2_with fail
     refine (Contains_ints lo2 _ _ cur _ HSA.out).mono ?_
     rintro e' w' ⟨rfl, rfl⟩
     rw [HG2.out]
     go_wp2_with (at_builtin; refine wpList_append_own _ rfl _ _ 35 rfl wB.heap.size 2 i0 (.int .i64 0) 1 8 Tryz.underlying35 hi hz0 hz1 hz2 rfl (by decide) _ _ _ rfl (HOA.out.alloc _) ⟨wr.heap.size + 1, 0, none⟩ 1 1 [.int .i64 e.dst] rfl rfl ?c1 ?c2 ?c3 ?c4 ?c5 ?_)
     case c1 => have := cell_one_new (wr.alloc (.cells #[.int .i64 e.src, .int .i64 m, .int .i64 e.dst] 47)) (.int .i64 e.dst) 2; simpa using this
     case c2 => intro u hu; simp at hu; subst hu; rfl
     case c3 => simp [maxLen]; omega
     case c4 => omega
     case c5 => simp; omega
     intro v' w3 ho1 hg1 _
     have HO2 : Hid (w3.ownsRow wB.heap.size 2 1 v' (fs ++ [e.dst]).length ((fs ++ [e.dst]).map (Value.int .i64))) := by
      unfold Hid
      rw [List.length_append, List.map_append, hwz]
      exact ho1
     have HB2 : Hid (Below wB.heap.size wB w3) := (HBA.out.alloc (by simp; omega) _).grown hg1 (by simp; omega) (fun b e => (HO.out.lt b e).1)
     clear ho1 hg1
     go_wp2_with fail
     go_roundw
     case rel => exact ⟨k + 1, by omega, by go_num, HB2.out, by rw [hitS_take hlt HG.out, HFS.out, HD.out]; exact HO2.out⟩
     case measure => simp [intOf]; omega
  ·obtain rfl : k = p.edges.length := by omega
   have HO2 : Hid (wr.ownsRow wB.heap.size 2 1 u7 (followR p cur l).length ((followR p cur l).map (Value.int .i64))) := by
    have := HO.out
    rw [List.take_length] at this
    exact this
   rw [List.take_length] at hfl
   have hfl2 : (followR p cur l).length ≤ 1048576 := by unfold followR; omega
   have HS1 := Lib.hid (Sort_own wB.heap.size u7 _ wr HO2.out hfl2)
   clear HO HER HLR q2 hfl hfl2
   go_wp2_with fail
   refine Calls.mono HS1.out ?_
   rintro e' w1 ⟨rfl, ho1, hg1⟩
   have HB1 := Lib.hid (HBL.out.grown hg1 (by exact hsz) (fun b e => (HO2.out.lt b e).1))
   have HS2 := Lib.hid (Compact_own wB.heap.size u7 ((followR p cur l).mergeSort fun x y => decide (x ≤ y)) w1 (by rw [List.length_mergeSort]; exact ho1))
   have HLT := Lib.hid (fun b e => (ho1.lt b e).1)
   clear ho1 hg1 HS1
   go_wp2_with fail
   refine Calls.mono HS2.out ?_
   rintro e' w2 ⟨v2, rfl, ho2, hg2⟩
   have HB2 := Lib.hid (HB1.out.grown hg2 HB1.out.size HLT.out)
   have HO3 := Lib.hid ho2
   clear ho2 hg2 HS2
   go_wp2_with fail
   go_ret
   exact ⟨_, rfl, HB0.out.trans (HB2.out.mono HB0.out.size), own_lower HO3.out HB0.out.size⟩

end Go.Proofs.YtdkbbknhighebaaGreatDoor

namespace Go.Proofs.YtdkbbknhighebaaGreatDoor
open Go Go.RowKit


theorem mem_followR {p : Lts} {cur : List Int} {l : ByteArray} {x : Int} : x ∈ followR p cur l ↔ ∃ e ∈ p.edges, e.src ∈ cur ∧ (labAt p e).toList = l.toList ∧ e.dst = x := by
 unfold followR hitS
 rw [List.mem_map]
 constructor
 ·rintro ⟨e, he, rfl⟩
  rw [List.mem_filter, Bool.and_eq_true, List.any_eq_true] at he
  obtain ⟨h1, ⟨y, hy, h2⟩, h3⟩ := he
  rw [beq_iff_eq] at h2 h3
  subst h2
  exact ⟨e, h1, hy, h3, rfl⟩
 ·rintro ⟨e, h1, h2, h3, rfl⟩
  refine ⟨e, ?_, rfl⟩
  rw [List.mem_filter, Bool.and_eq_true, List.any_eq_true]
  exact ⟨h1, ⟨e.src, h2, by rw [beq_iff_eq]⟩, by rw [beq_iff_eq]; exact h3⟩
end Go.Proofs.YtdkbbknhighebaaGreatDoor

namespace Go.Proofs.YtdkbbknhighebaaGreatDoor
open Go Go.RowKit


def tauT : ByteArray := ⟨#[116, 97, 117]⟩
end Go.Proofs.YtdkbbknhighebaaGreatDoor

namespace Go.Proofs.YtdkbbknhighebaaGreatDoor
open Go Go.RowKit


theorem blk_own_neL {w : World} {b : Nat} {cs : List Value} {t : TypeId} (h : Blk w b cs t) {base e size n : Nat} {v : Value} {xs : List Value} (ho : w.ownsRow base e size v n xs) (he : e ≠ t) : some b ≠ v.ownBlock := by
 rcases own_type_ne ho (show w.heap[b]? = some (.cells cs.toArray t (0, 0)) from h) he with h | h
 ·rw [h]; simp
 ·exact fun e => h e.symm
/-- Where a text stands in a list. -/
def idxL (L : List ByteArray) (l : ByteArray) : Nat := L.findIdx fun x => x.toList == l.toList
theorem toList_inj {a b : ByteArray} (h : a.toList = b.toList) : a = b := data_inj (by rw [← Lib.toList_data, ← Lib.toList_data, h])
theorem idxL_get {L : List ByteArray} {l : ByteArray} (h : l ∈ L) : ∃ hk : idxL L l < L.length, L[idxL L l] = l ∧ ∀ j (h : j < L.length), j < idxL L l → (l.toList == L[j].toList) = false := by
 have h1 : idxL L l < L.length := by
  unfold idxL
  rw [List.findIdx_lt_length]
  exact ⟨l, h, by rw [beq_iff_eq]⟩
 refine ⟨h1, ?_, fun j hj hlt => ?_⟩
 ·have := List.findIdx_getElem (p := fun x : ByteArray => x.toList == l.toList) (xs := L) (w := h1)
  rw [beq_iff_eq] at this
  exact toList_inj this
 ·have := List.not_of_lt_findIdx (p := fun x : ByteArray => x.toList == l.toList) (xs := L) hlt
  have h2 : (L[j].toList == l.toList) = false := by simpa using this
  rw [beq_eq_false_iff_ne] at h2 ⊢
  exact fun e => h2 e.symm
/-- Between the steps of lts: the result's cell, the system under way, its labels, its edges. -/
structure LtsSt (W c0 o : Nat) (n i : Int) (Ls : List ByteArray) (Es : List Edge) (lv ev : Value) (w0 w : World) : Prop where
 res : Blk w c0 [.int .i64 0, .int .i64 0, .slice none 0 0, .slice none 0 0] 27
 out : Blk w o [.int .i64 n, .int .i64 i, lv, ev] 27
 labels : w.ownsRow W 9 1 lv Ls.length (Ls.map .string)
 edges : w.ownsRow W 47 3 ev Es.length (Es.flatMap encE)
 below : Below W w0 w

theorem own_sets {w : World} {base e size n : Nat} {v : Value} {xs : List Value} (h : w.ownsRow base e size v n xs) {b : Nat} {cs : List Value} {t : TypeId} (hb : Blk w b cs t) (he : e ≠ t) (i : Nat) (u : Value) : (w.setCell ⟨b, i, none⟩ u).ownsRow base e size v n xs :=
 h.kept (grown_setCell w ⟨b, i, none⟩ u) (own_type_ne h hb he)
theorem LtsSt.push {W c0 o : Nat} {n i : Int} {Ls : List ByteArray} {Es : List Edge} {x : Edge} {lv ev ev' : Value} {w0 w w2 w5 : World} (h : LtsSt W c0 o n i Ls Es lv ev w0 w) (hne : c0 ≠ o) (hW : W ≤ w.heap.size) (ho : W ≤ o) (hb : Below w.heap.size w w2) (hg : w2.grownBy w5 ev.ownBlock)
  (h5 : w5.ownsRow W 47 3 ev' (Es.length + 1) (Es.flatMap encE ++ encE x)) : LtsSt W c0 o n i Ls (Es ++ [x]) lv ev' w0 (w5.setCell ⟨o, 3, none⟩ ev') := by
 have E2 := owns_below h.edges hb
 have R2 := h.res.below hb
 have X2 := h.out.below hb
 have L2 := owns_below h.labels hb
 have R5 : Blk w5 c0 _ _ := (hg.block c0 R2.lt (blk_own_neL R2 E2 (by decide))).trans R2
 have X5 : Blk w5 o _ _ := (hg.block o X2.lt (blk_own_neL X2 E2 (by decide))).trans X2
 have L5 := L2.kept hg (own_types L2 E2 (by decide))
 have hs := grown_setCell w5 ⟨o, 3, none⟩ ev'
 have hW2 : W ≤ w2.heap.size := Nat.le_trans hW hb.size
 refine ⟨R5.setOther _ _ hne, X5.set 3 ev', L5.kept hs (own_type_ne L5 X5 (by decide)), ?_, ((h.below.trans (hb.mono hW)).grown hg hW2 (fun b e => (E2.lt b e).1)).setCell ho _⟩
 have := h5.kept hs (own_type_ne h5 X5 (by decide))
 simpa using this

end Go.Proofs.YtdkbbknhighebaaGreatDoor
