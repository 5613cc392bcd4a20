/-
  Two facts on sets of labels and of edges. Plain.
  A system of the call's own: how it lies in memory.
  The part of some states and the quotient as the program makes them; the classes of mutual simulation. Plain.
  The library's Clone at lists of texts.
  A whole slice appended to a row of the call's own.
  A struct of four cells that is written; a slice of edges cloned.
  The library's slices.IndexFunc and slices.ContainsFunc at a slice of edges, with a function that may lay blocks of its own.
  The program's only: the edges that a function keeps; clone.
-/
import Derived.Test.YtdkbbknhighebaaGreatDoorL8
import Derived.Test.YtdkbbknhighebaaGreatDoorL6
import Derived.Handy
import Derived.Test.YtdkbbknhighebaaGreatDoorL7
import Derived.Deep.RegionHeld3
import Derived.Deep.AppendLies
import Derived.Test.YtdkbbknhighebaaGreatDoorL5
import Derived.Test.YtdkbbknhighebaaGreatDoorL1
import Derived.Test.YtdkbbknhighebaaGreatDoorL2
import Derived.Test.YtdkbbknhighebaaGreatDoorL4
import Derived.Laws.AppendOwn
import Derived.Laws.AppendOwnNone
import Derived.Test.YtdkbbknhighebaaGreatDoorProg
import Derived.Laws.Cover3
namespace Go.Proofs.YtdkbbknhighebaaGreatDoor
open Go Go.RowKit


theorem sus_text {L : List ByteArray} {l : ByteArray} (h : l ∈ L) : textAt L l = (idxL L l : Nat) := by
 obtain ⟨hk, -, -⟩ := idxL_get h
 unfold textAt
 unfold idxL at hk ⊢
 rw [if_pos hk]
end Go.Proofs.YtdkbbknhighebaaGreatDoor

namespace Go.Proofs.YtdkbbknhighebaaGreatDoor
open Go Go.RowKit

/-- A system of the call's own. -/
def OwnLts (lo : Nat) (w : World) (lv ev : Value) (t : Lts) : Prop := w.ownsRow lo 9 1 lv t.labels.length (t.labels.map .string) ∧ w.ownsRow lo 47 3 ev t.edges.length (t.edges.flatMap encE)
theorem OwnLts.below {lo : Nat} {w w' : World} {lv ev : Value} {t : Lts} (h : OwnLts lo w lv ev t) (hb : Below w.heap.size w w') : OwnLts lo w' lv ev t := ⟨owns_below h.1 hb, owns_below h.2 hb⟩
theorem OwnLts.lower {lo lo' : Nat} {w : World} {lv ev : Value} {t : Lts} (h : OwnLts lo w lv ev t) (hl : lo' ≤ lo) : OwnLts lo' w lv ev t := ⟨own_lower h.1 hl, own_lower h.2 hl⟩
theorem OwnLts.at {lo : Nat} {w : World} {lv ev : Value} {t : Lts} (h : OwnLts lo w lv ev t) : LtsAt lo w (.agg #[.int .i64 t.states, .int .i64 t.initial, lv, ev]) t :=
 ⟨lv, ev, rfl, SliceK.of_owns (e := 9) encS_len rfl (by rw [flat_encS]; exact h.1), SliceK.of_owns (e := 47) encE_len rfl h.2⟩

end Go.Proofs.YtdkbbknhighebaaGreatDoor

namespace Go.Proofs.YtdkbbknhighebaaGreatDoor
open Go Go.RowKit


theorem placeI_get {L : List Int} {x : Int} (h : 0 ≤ placeI L x) : placeI L x < L.length ∧ L.getD (placeI L x).toNat 0 = x := by
 unfold placeI at h ⊢
 by_cases hf : L.findIdx (fun y => y == x) < L.length
 ·rw [if_pos hf] at h ⊢
  refine ⟨by omega, ?_⟩
  have h2 := List.findIdx_getElem (w := hf)
  rw [Int.toNat_natCast, List.getD_eq_getElem?_getD, List.getElem?_eq_getElem hf]
  exact eq_of_beq h2
 ·rw [if_neg hf] at h
  omega
theorem placeI_mem {L : List Int} {x : Int} (h : x ∈ L) : 0 ≤ placeI L x := by
 unfold placeI
 have hf : L.findIdx (fun y => y == x) < L.length := List.findIdx_lt_length.2 ⟨x, h, beq_self_eq_true x⟩
 rw [if_pos hf]
 omega
theorem placeI_at {L : List Int} (hd : L.Nodup) {i : Int} (hi : 0 ≤ i ∧ i < L.length) : placeI L (L.getD i.toNat 0) = i := by
 have h1 := placeI_get (placeI_mem (mem_getDL hi))
 have hil : i.toNat < L.length := by omega
 have h0 := placeI_mem (mem_getDL hi)
 have hpl : (placeI L (L.getD i.toNat 0)).toNat < L.length := by omega
 have h2 := h1.2
 rw [List.getD_eq_getElem?_getD (i := (placeI L (L.getD i.toNat 0)).toNat), List.getElem?_eq_getElem hpl] at h2
 have h3 : L.getD i.toNat 0 = L[i.toNat] := by rw [List.getD_eq_getElem?_getD, List.getElem?_eq_getElem hil]; rfl
 simp only [Option.getD_some] at h2
 have h4 := (List.getElem_inj hd).1 (h2.trans h3)
 omega
def prtE (L : List Int) (e : Edge) : Option Edge := if 0 ≤ placeI L e.src ∧ 0 ≤ placeI L e.dst then some ⟨placeI L e.src, e.lab, placeI L e.dst⟩ else none
def prtL (L : List Int) (es : List Edge) : List Edge := es.filterMap (prtE L)
theorem prtL_yes {L : List Int} {es : List Edge} {k : Nat} (hk : k < es.length) (h : 0 ≤ placeI L es[k].src ∧ 0 ≤ placeI L es[k].dst) : prtL L (es.take (k + 1)) = prtL L (es.take k) ++ [⟨placeI L es[k].src, es[k].lab, placeI L es[k].dst⟩] := by
 unfold prtL
 rw [List.take_succ_eq_append_getElem hk, List.filterMap_append]
 unfold prtE
 simp [h]
theorem prtL_no {L : List Int} {es : List Edge} {k : Nat} (hk : k < es.length) (h : ¬ (0 ≤ placeI L es[k].src ∧ 0 ≤ placeI L es[k].dst)) : prtL L (es.take (k + 1)) = prtL L (es.take k) := by
 unfold prtL
 rw [List.take_succ_eq_append_getElem hk, List.filterMap_append]
 have : [es[k]].filterMap (prtE L) = [] := by
  unfold prtE
  simp [h]
 rw [this, List.append_nil]
def partT (t : Lts) (L : List Int) : Lts := ⟨L.length, placeI L t.initial, t.labels, sortEs (prtL L t.edges)⟩
theorem sort_pairs (ms : List Edge) : (sortEs ms).Pairwise fun a b => a = b ∨ edgeLess a b = true := by
 have hs : (sortEs ms).Pairwise fun x y => (!edgeLess y x) = true := by
  unfold sortEs
  refine List.pairwise_mergeSort (le := fun x y => !edgeLess y x) ?_ ?_ _
  ·intro a b c h1 h2
   simp only [Bool.not_eq_true'] at h1 h2 ⊢
   rw [← Bool.not_eq_true] at h1 h2 ⊢
   intro h3
   rw [edgeLess_iff] at h1 h2 h3
   omega
  ·intro a b
   cases h3 : edgeLess b a with
   | false => simp
   | true =>
    cases h4 : edgeLess a b with
    | false => simp
    | true =>
     rw [edgeLess_iff] at h3 h4
     omega
 refine hs.imp fun {a b} h => ?_
 rw [Bool.not_eq_true'] at h
 cases h2 : edgeLess a b with
 | true => exact .inr rfl
 | false => exact .inl (edgeLess_tri a b h2 h)
theorem sort_riseC {ms : List Edge} (h : ms.Nodup) : RiseE (sortEs ms) := by
 have hp : (sortEs ms).Perm ms := List.mergeSort_perm _ _
 have hnd : (sortEs ms).Nodup := hp.nodup_iff.2 h
 rw [List.nodup_iff_pairwise_ne] at hnd
 refine ((sort_pairs ms).and hnd).imp fun {a b} h => ?_
 rcases h.1 with e | e
 ·exact absurd e h.2
 ·exact e
theorem riseE_validC {t : Lts} (hv : Valid t) : RiseE t.edges := by
 unfold RiseE
 rw [List.pairwise_iff_getElem]
 intro i j hi hj hij
 induction j with
 | zero => omega
 | succ j ih =>
  have h1 := hv.rise j hj
  rcases Nat.lt_or_ge i j with hlt | hge
  ·have h2 := ih (by omega) hlt
   rw [edgeLess_iff] at *
   omega
  ·obtain rfl : i = j := by omega
   exact h1
theorem prt_some {L : List Int} {f e : Edge} : prtE L f = some e ↔ (0 ≤ placeI L f.src ∧ 0 ≤ placeI L f.dst) ∧ e = ⟨placeI L f.src, f.lab, placeI L f.dst⟩ := by
 unfold prtE
 split
 ·next h => simp only [Option.some.injEq]; exact ⟨fun k => ⟨h, k.symm⟩, fun k => k.2.symm⟩
 ·next h => exact ⟨(fun k => by cases k), fun k => absurd k.1 h⟩
theorem partT_is {t : Lts} {L : List Int} (hv : Valid t) (hc : Closed t L) (hi : t.initial ∈ L) : IsPart t (partT t L) L := by
 have hnd := asc_nodup hc.asc
 have h0 := placeI_mem hi
 have h1 := placeI_get h0
 refine ⟨rfl, ⟨h0, h1.1⟩, h1.2, rfl, fun e => ?_, ?_, ?_⟩
 ·show e ∈ sortEs _ ↔ _
  rw [sortEs_mem]
  unfold prtL
  rw [List.mem_filterMap]
  constructor
  ·rintro ⟨f, hf, h⟩
   obtain ⟨⟨h2, h3⟩, rfl⟩ := prt_some.1 h
   have h4 := placeI_get h2
   have h5 := placeI_get h3
   refine ⟨⟨h2, h4.1⟩, ⟨h3, h5.1⟩, ?_⟩
   show (⟨L.getD (placeI L f.src).toNat 0, f.lab, L.getD (placeI L f.dst).toNat 0⟩ : Edge) ∈ t.edges
   rw [h4.2, h5.2]
   exact hf
  ·rintro ⟨h2, h3, h4⟩
   refine ⟨_, h4, prt_some.2 ?_⟩
   simp only
   rw [placeI_at hnd h2, placeI_at hnd h3]
   exact ⟨⟨h2.1, h3.1⟩, rfl⟩
 ·refine sort_riseC ?_
  unfold prtL
  rw [List.nodup_iff_pairwise_ne, List.pairwise_filterMap]
  refine (riseE_validC hv).imp fun {a b} hab a' ha' b' hb' e => ?_
  obtain ⟨⟨h2, h3⟩, rfl⟩ := prt_some.1 ha'
  obtain ⟨⟨h4, h5⟩, rfl⟩ := prt_some.1 hb'
  simp only [Edge.mk.injEq] at e
  have e1 : a.src = b.src := by rw [← (placeI_get h2).2, ← (placeI_get h4).2, e.1]
  have e2 : a.dst = b.dst := by rw [← (placeI_get h3).2, ← (placeI_get h5).2, e.2.2]
  rw [edgeLess_iff] at hab
  have := e.2.1
  omega
 ·show (sortEs _).length ≤ _
  rw [sortEs_len]
  exact List.length_filterMap_le _ _

/-- An edge between blocks. -/
def qtE (p : List Int) (f : Edge) : Edge := ⟨p.getD f.src.toNat 0, f.lab, p.getD f.dst.toNat 0⟩
def quotT (r : Lts) (p : List Int) (n : Int) : Lts := ⟨n, p.getD r.initial.toNat 0, r.labels, Lib.compact (sortEs (r.edges.map (qtE p)))⟩
theorem quot_edges (ms : List Edge) : RiseE (Lib.compact (sortEs ms)) ∧ (∀ e, e ∈ Lib.compact (sortEs ms) ↔ e ∈ ms) ∧ (Lib.compact (sortEs ms)).length ≤ ms.length := by
 obtain ⟨h1, h2⟩ := compact_is (fun a b : Edge => edgeLess a b = true) (fun a b c h k => edgeLess_trans a b c h k) _ (sort_pairs ms)
 refine ⟨h1, fun e => (h2 e).trans (sortEs_mem e), ?_⟩
 have := Lib.compact_length_le (sortEs ms)
 rwa [sortEs_len] at this
/-- The first state that is below a state and above it. -/
def clsN (N : PairSet) (k : Nat) : Nat := ((List.range k).find? fun (j : Nat) => N (k : Int) (j : Int) && N (j : Int) (k : Int)).getD k
def clsTo (N : PairSet) (k j : Nat) : Nat := ((List.range j).find? fun (j : Nat) => N (k : Int) (j : Int) && N (j : Int) (k : Int)).getD k
theorem clsTo_all (N : PairSet) (k : Nat) : clsTo N k k = clsN N k := rfl
theorem clsTo_no {N : PairSet} {k j : Nat} (h : (N (k : Int) (j : Int) && N (j : Int) (k : Int)) = false) : clsTo N k (j + 1) = clsTo N k j := by
 unfold clsTo
 rw [List.range_succ, List.find?_append]
 have : [j].find? (fun (j : Nat) => N (k : Int) (j : Int) && N (j : Int) (k : Int)) = none := by simp [List.find?, h]
 rw [this, Option.or_none]
theorem clsTo_yes {N : PairSet} {k j : Nat} (hj : j < k) (h : (N (k : Int) (j : Int) && N (j : Int) (k : Int)) = true) : clsTo N k (j + 1) = min (clsTo N k j) j := by
 unfold clsTo
 rw [List.range_succ, List.find?_append]
 have e : [j].find? (fun (j : Nat) => N (k : Int) (j : Int) && N (j : Int) (k : Int)) = some j := by simp [List.find?, h]
 rw [e]
 cases hf : (List.range j).find? fun (j : Nat) => N (k : Int) (j : Int) && N (j : Int) (k : Int) with
 | none => simp; omega
 | some i =>
  have hi := List.mem_range.1 (List.mem_of_find?_eq_some hf)
  simp
  omega
theorem clsTo_le (N : PairSet) (k j : Nat) (hj : j ≤ k) : clsTo N k j ≤ k := by
 unfold clsTo
 cases hf : (List.range j).find? fun (j : Nat) => N (k : Int) (j : Int) && N (j : Int) (k : Int) with
 | none => exact Nat.le_refl _
 | some i =>
  have hi := List.mem_range.1 (List.mem_of_find?_eq_some hf)
  show i ≤ k
  omega
/-- The classes so far: of the first k states, and of the k-th by the first j. -/
def clsL (N : PairSet) (S k j : Nat) : List Int := (List.range S).map fun i => if i < k then (clsN N i : Int) else if i = k then (clsTo N k j : Int) else (i : Int)
theorem clsL_zero (N : PairSet) (S : Nat) : clsL N S 0 0 = upI S := by
 unfold clsL upI
 refine List.map_congr_left fun i _ => ?_
 rw [if_neg (Nat.not_lt_zero _)]
 split
 ·next e => subst e; rfl
 ·rfl
theorem clsL_len (N : PairSet) (S k j : Nat) : (clsL N S k j).length = S := by simp [clsL]
theorem clsL_row (N : PairSet) (S k : Nat) : clsL N S k k = clsL N S (k + 1) 0 := by
 unfold clsL
 refine List.map_congr_left fun i _ => ?_
 by_cases h1 : i < k
 ·rw [if_pos h1, if_pos (by omega)]
 ·rw [if_neg h1]
  by_cases h2 : i = k
  ·subst h2; rw [if_pos rfl, if_pos (by omega), clsTo_all]
  ·rw [if_neg h2, if_neg (by omega)]
   split
   ·next e => subst e; rfl
   ·rfl
theorem clsL_at {N : PairSet} {S k j : Nat} (hk : k < S) : (clsL N S k j)[k]? = some (clsTo N k j : Int) := by
 unfold clsL
 rw [List.getElem?_map, List.getElem?_range hk]
 simp
theorem clsL_set {N : PairSet} {S k j : Nat} (_hk : k < S) : (clsL N S k j).set k (clsTo N k (j + 1) : Int) = clsL N S k (j + 1) := by
 unfold clsL
 apply List.ext_getElem?
 intro i
 rw [List.getElem?_set]
 by_cases e : k = i
 ·subst e
  rw [if_pos rfl]
  simp only [List.length_map, List.length_range]
  by_cases hS : k < S
  ·rw [if_pos hS, List.getElem?_map, List.getElem?_range hS]
   simp
  ·omega
 ·rw [if_neg e, List.getElem?_map, List.getElem?_map]
  by_cases hi : i < S
  ·rw [List.getElem?_range hi, Option.map_some, Option.map_some]
   by_cases h1 : i < k
   ·rw [if_pos h1, if_pos h1]
   ·rw [if_neg h1, if_neg h1, if_neg (fun h => e h.symm), if_neg (fun h => e h.symm)]
  ·rw [List.getElem?_eq_none (by simp; omega)]
   rfl
def clsA (N : PairSet) (S : Nat) : List Int := (List.range S).map fun i => (clsN N i : Int)
theorem clsL_end (N : PairSet) (S : Nat) : clsL N S S 0 = clsA N S := by
 unfold clsL clsA
 refine List.map_congr_left fun i hi => ?_
 rw [if_pos (List.mem_range.1 hi)]
theorem clsA_len (N : PairSet) (S : Nat) : (clsA N S).length = S := by simp [clsA]
theorem clsA_at {N : PairSet} {S i : Nat} (h : i < S) : (clsA N S)[i]? = some (clsN N i : Int) := by
 unfold clsA
 rw [List.getElem?_map, List.getElem?_range h]
 rfl
/-- The class of a state: a state of mutual simulation, the first one. -/
theorem clsN_is {r : Lts} {N : PairSet} (hr : Valid r) (hN : Great r r (allG r r) N) {k : Nat} (hk : (k : Int) < r.states) : clsN N k ≤ k ∧ Le r r (k : Int) (clsN N k : Int) ∧ Le r r (clsN N k : Int) (k : Int) ∧ ∀ j, j < clsN N k → ¬ (Le r r (k : Int) (j : Int) ∧ Le r r (j : Int) (k : Int)) := by
 have hno : ∀ j, j < k → (N (k : Int) (j : Int) && N (j : Int) (k : Int)) = false → ¬ (Le r r (k : Int) (j : Int) ∧ Le r r (j : Int) (k : Int)) := fun j hj h ⟨h1, h2⟩ => by
  rw [(great_le hr hr rfl hN).2 ⟨⟨⟨by omega, hk⟩, by omega, by omega⟩, h1⟩, (great_le hr hr rfl hN).2 ⟨⟨⟨by omega, by omega⟩, by omega, hk⟩, h2⟩] at h
  cases h
 unfold clsN
 cases hf : (List.range k).find? fun (j : Nat) => N (k : Int) (j : Int) && N (j : Int) (k : Int) with
 | none =>
  refine ⟨Nat.le_refl _, Le.refl _ _, Le.refl _ _, fun j hj => hno j hj ?_⟩
  have := List.find?_eq_none.1 hf j (List.mem_range.2 hj)
  rwa [Bool.not_eq_true] at this
 | some i =>
  have hi := List.mem_range.1 (List.mem_of_find?_eq_some hf)
  have hp := List.find?_some hf
  rw [Bool.and_eq_true] at hp
  refine ⟨by show i ≤ k; omega, ((great_le hr hr rfl hN).1 hp.1).2, ((great_le hr hr rfl hN).1 hp.2).2, fun j hj => hno j (by have : j < i := hj; omega) ?_⟩
  obtain ⟨h1, pre, post, h2, h3⟩ := List.find?_eq_some_iff_append.1 hf
  have hji : j < i := hj
  have hjm : j ∈ pre := by
   have hlen : pre.length = i := by
    have h4 : (List.range k)[pre.length]? = some i := by rw [h2]; simp
    rw [List.getElem?_range (by have := congrArg List.length h2; simp at this; omega)] at h4
    exact Option.some.inj h4
   have h5 : (List.range k)[j]? = some j := List.getElem?_range (by omega)
   rw [h2, List.getElem?_append_left (by omega)] at h5
   exact List.mem_of_getElem? h5
  have := h3 j hjm
  rwa [Bool.not_eq_true'] at this
theorem clsN_same {r : Lts} {N : PairSet} (hr : Valid r) (hN : Great r r (allG r r) N) {i j : Nat} (hi : (i : Int) < r.states) (hj : (j : Int) < r.states) : clsN N i = clsN N j ↔ Le r r (i : Int) (j : Int) ∧ Le r r (j : Int) (i : Int) := by
 obtain ⟨a1, a2, a3, a4⟩ := clsN_is hr hN hi
 obtain ⟨b1, b2, b3, b4⟩ := clsN_is hr hN hj
 constructor
 ·intro e
  rw [← e] at b2 b3
  exact ⟨a2.trans b3, b2.trans a3⟩
 ·rintro ⟨h1, h2⟩
  rcases Nat.lt_trichotomy (clsN N i) (clsN N j) with h | h | h
  ·exact absurd ⟨h2.trans a2, a3.trans h1⟩ (b4 _ h)
  ·exact h
  ·exact absurd ⟨h1.trans b2, b3.trans h2⟩ (a4 _ h)
theorem firsts_nodupC (l : List Int) : (firsts l).Nodup := by
 have h : ∀ (m acc : List Int), acc.Nodup → (m.foldl addNew acc).Nodup := by
  intro m
  induction m with
  | nil => exact fun acc h => h
  | cons y m ih =>
   intro acc h
   rw [List.foldl_cons]
   refine ih _ ?_
   unfold addNew
   by_cases hy : y ∈ acc
   ·rw [if_pos hy]; exact h
   ·rw [if_neg hy, List.nodup_append]
    refine ⟨h, by simp, ?_⟩
    intro a ha b hb
    rw [List.mem_singleton] at hb
    subst hb
    exact fun e => hy (e ▸ ha)
 exact h l [] List.nodup_nil
/-- Numbers by first sight: each number below the count has its place. -/
theorem normL_onto {l : List Int} {c : Nat} (hc : c < (firsts l).length) : ∃ i, i < l.length ∧ (normL l)[i]? = some (c : Int) := by
 have hm : (firsts l)[c] ∈ l := (firsts_mem l _).1 (List.getElem_mem hc)
 obtain ⟨i, hi, e⟩ := List.mem_iff_getElem.1 hm
 refine ⟨i, hi, ?_⟩
 rw [normL_get hi, e]
 congr 2
 refine fstIx_eq (List.getElem?_eq_getElem hc) fun j hj he => ?_
 have hjl : j < (firsts l).length := by omega
 rw [List.getElem?_eq_getElem hjl] at he
 have := firsts_nodupC l
 have h2 := List.pairwise_iff_getElem.1 (List.nodup_iff_pairwise_ne.1 this) j c hjl hc hj
 exact h2 (Option.some.inj he)
theorem quotT_is {r : Lts} {N : PairSet} {S : Nat} (hr : Valid r) (hS : (S : Int) = r.states) (hN : Great r r (allG r r) N) {n : Int} (hn1 : ∃ x ∈ normL (clsA N S), n = x + 1) (hn2 : ∀ x ∈ normL (clsA N S), x < n) : IsQuot r (quotT r (normL (clsA N S)) n) (normL (clsA N S)) := by
 obtain ⟨l, hl⟩ : ∃ l, l = clsA N S := ⟨_, rfl⟩
 rw [← hl] at hn1 hn2 ⊢
 have hll : l.length = S := by rw [hl, clsA_len]
 have hpl : (normL l).length = S := by rw [normL_len, hll]
 have hg : ∀ x : Int, 0 ≤ x → x < (S : Int) → ∃ h : x.toNat < (normL l).length, (normL l).getD x.toNat 0 = (normL l)[x.toNat] := fun x h0 h1 => ⟨by omega, by rw [List.getD_eq_getElem?_getD, List.getElem?_eq_getElem (by omega)]; rfl⟩
 have hrng : ∀ x ∈ normL l, 0 ≤ x := fun x hx => (normL_range hx).1
 obtain ⟨x0, hx0, hnx⟩ := hn1
 have hx00 := hrng x0 hx0
 obtain ⟨i0, hi0, hxi⟩ := List.mem_iff_getElem.1 hx0
 have hi0l : i0 < l.length := by rw [normL_len] at hi0; exact hi0
 have hxv : x0 = (fstIx (firsts l) l[i0] : Int) := by
  have := normL_get hi0l
  rw [List.getElem?_eq_getElem hi0, hxi] at this
  exact Option.some.inj this
 have hxF : fstIx (firsts l) l[i0] < (firsts l).length := fstIx_lt ((firsts_mem l _).2 (List.getElem_mem hi0l))
 have hFl := firsts_len l
 obtain ⟨h1, h2, h3⟩ := quot_edges (r.edges.map (qtE (normL l)))
 refine ⟨by rw [hpl]; omega, fun x h0 h1 => ?_, fun c h0 h1 => ?_, fun x y hx hy => ?_, rfl, rfl, fun e => ?_, h1, by rw [List.length_map] at h3; exact h3, ⟨by show 1 ≤ n; omega, by show n ≤ r.states; omega⟩⟩
 ·obtain ⟨h, e⟩ := hg x h0 (by omega)
  rw [e]
  exact ⟨hrng _ (List.getElem_mem _), hn2 _ (List.getElem_mem _)⟩
 ·have hcn : c < n := h1
  obtain ⟨i, hi, he⟩ := normL_onto (l := l) (c := c.toNat) (by omega)
  refine ⟨(i : Int), ⟨by omega, by omega⟩, ?_⟩
  rw [Int.toNat_natCast, List.getD_eq_getElem?_getD, he]
  show ((c.toNat : Nat) : Int) = c
  omega
 ·obtain ⟨hxl, ex⟩ := hg x hx.1 (by omega)
  obtain ⟨hyl, ey⟩ := hg y hy.1 (by omega)
  rw [ex, ey, normL_same (by omega) (by omega)]
  have hcx : l[x.toNat]'(by omega) = (clsN N x.toNat : Int) := by
   have := clsA_at (N := N) (S := S) (i := x.toNat) (by omega)
   rw [← hl, List.getElem?_eq_getElem (by omega)] at this
   exact Option.some.inj this
  have hcy : l[y.toNat]'(by omega) = (clsN N y.toNat : Int) := by
   have := clsA_at (N := N) (S := S) (i := y.toNat) (by omega)
   rw [← hl, List.getElem?_eq_getElem (by omega)] at this
   exact Option.some.inj this
  rw [hcx, hcy]
  have h5 := clsN_same hr hN (i := x.toNat) (j := y.toNat) (by omega) (by omega)
  rw [show ((x.toNat : Nat) : Int) = x by omega, show ((y.toNat : Nat) : Int) = y by omega] at h5
  rw [← h5]
  omega
 ·show e ∈ Lib.compact _ ↔ _
  rw [h2, List.mem_map]
  exact ⟨fun ⟨f, hf, e9⟩ => ⟨f, hf, e9.symm⟩, fun ⟨f, hf, e9⟩ => ⟨f, hf, e9.symm⟩⟩
/-- Where no two states simulate each other, the classes are the states. -/
theorem cls_alone {m : Lts} {N : PairSet} {S : Nat} (hm : Valid m) (hS : (S : Int) = m.states) (hN : Great m m (allG m m) N) (h : ∀ i j, (0 ≤ i ∧ i < m.states) → (0 ≤ j ∧ j < m.states) → Le m m i j → Le m m j i → i = j) : (normL (clsA N S)).Nodup ∧ (normL (clsA N S)).length = S := by
 refine ⟨?_, by rw [normL_len, clsA_len]⟩
 rw [List.nodup_iff_pairwise_ne, List.pairwise_iff_getElem]
 intro i j hi hj hij e
 rw [normL_len, clsA_len] at hi hj
 rw [normL_same (by rw [clsA_len]; exact hi) (by rw [clsA_len]; exact hj)] at e
 have h1 := clsA_at (N := N) hi
 have h2 := clsA_at (N := N) hj
 rw [List.getElem?_eq_getElem (by rw [clsA_len]; exact hi)] at h1
 rw [List.getElem?_eq_getElem (by rw [clsA_len]; exact hj)] at h2
 rw [Option.some.inj h1, Option.some.inj h2] at e
 have h3 := (clsN_same hm hN (i := i) (j := j) (by omega) (by omega)).1 (by omega)
 have := h i j ⟨by omega, by omega⟩ ⟨by omega, by omega⟩ h3.1 h3.2
 omega

end Go.Proofs.YtdkbbknhighebaaGreatDoor

namespace Go.Proofs.YtdkbbknhighebaaGreatDoor
open Go Go.RowKit


theorem CloneS_own (lo : Nat) (v : Value) (xs : List ByteArray) (w : World) (hv : SliceK 1 encS lo w v xs) (hz : xs.length ≤ 1048576) :
  Calls Tryz.prog 36 #[v] w fun e w' => ∃ v', e = .returned v' ∧ w'.ownsRow w.heap.size 9 1 v' xs.length (xs.map Value.string) ∧ Below w.heap.size w w' := by
 obtain ⟨a, c, rfl, hn, hc, hrow⟩ := hv
 cases a with
 | none =>
  have h0 : xs.length = 0 := by
   rcases hrow with h | ⟨b, o, h, -⟩
   ·exact h
   ·cases h
  have hx : xs = [] := List.eq_nil_of_length_eq_zero h0
  subst hx
  refine (Tryz.slices_Clone_string_nil _ _ w).mono ?_
  rintro e w' ⟨rfl, rfl⟩
  exact ⟨_, rfl, World.ownsRow_nil _ _ _ _, Below.refl _ _⟩
 | some a =>
  rcases hrow with h0 | ⟨b, o, h, -, hb, hcell⟩
  ·have hx : xs = [] := List.eq_nil_of_length_eq_zero h0
   subst hx
   refine (Tryz.slices_Clone_string_zero a c w).mono ?_
   rintro e w' ⟨v', rfl, ho, -, hb⟩
   exact ⟨v', rfl, ho, hb⟩
  ·cases h
   refine (Tryz.slices_Clone_string b o xs.length c xs w (Nat.le_refl _) (by omega) (fun j hj => ?_)).mono ?_
   ·have := hcell j hj 0 (by omega)
    rw [List.getD_eq_getElem?_getD, List.getElem?_eq_getElem hj]
    simpa [encS] using this
   ·rintro e w' ⟨v', rfl, ho, -, hb2⟩
    rw [List.take_length] at ho
    exact ⟨v', rfl, ho, hb2⟩

end Go.Proofs.YtdkbbknhighebaaGreatDoor

namespace Go.Proofs.YtdkbbknhighebaaGreatDoor
open Go Go.RowKit


theorem flat_lenC {α : Type} {k : Nat} {enc : α → List Value} (hk : ∀ x, (enc x).length = k) (xs : List α) : (xs.flatMap enc).length = xs.length * k := by
 induction xs with
 | nil => simp
 | cons x r ih => rw [List.flatMap_cons, List.length_append, hk, ih, List.length_cons, Nat.succ_mul]; omega
theorem flat_at {α : Type} {k : Nat} {enc : α → List Value} (hk : ∀ x, (enc x).length = k) : ∀ (xs : List α) (i : Nat) (h : i < xs.length) (j : Nat), j < k → (xs.flatMap enc)[i * k + j]? = (enc xs[i])[j]?
 | x :: r, 0, _, j, hj => by rw [List.flatMap_cons, Nat.zero_mul, Nat.zero_add, List.getElem?_append_left (by rw [hk]; exact hj)]; rfl
 | x :: r, i + 1, h, j, hj => by
  rw [List.flatMap_cons, List.getElem?_append_right (by rw [hk, Nat.succ_mul]; omega), hk, show (i + 1) * k + j - k = i * k + j from by rw [Nat.succ_mul]; omega]
  exact flat_at hk r i (by simpa using h) j hj
theorem run_append_zero {P : Program} {w : World} (base : Nat) (t ty e : TypeId) (i : TypeInfo) (size : Nat) (ht : P.underlying t = some (.slice e)) (hi : P.info? e = some i)
  (v : Value) (n : Nat) (xs : List Value) (hown : w.ownsRow base e size v n xs) (c : Nat) :
  (Builtin.append_ #[t, t] ty #[v, .slice none 0 c]).run P w = .ok v w := by
 rcases hown.2 with ⟨rfl, rfl⟩ | ⟨g, cap, cur, rfl, _, _, hnc, _⟩
 ·simp [Builtin.append_, run_underlying ht, sizeOf, typeInfo, hi, Builtin.lenOf, Builtin.firstCells]
 ·simp [Builtin.append_, run_underlying ht, sizeOf, typeInfo, hi, Builtin.lenOf, Builtin.firstCells, hnc, storeCells]

theorem append_slice {α : Type} {k : Nat} {enc : α → List Value} (hk : ∀ x, (enc x).length = k) (h1 : ∀ x, ∀ u ∈ enc x, u.oneCell' = true) (h0 : 0 < k)
  {P : Program} {ops : Array Oper} {rest : List Oper} {o : Oper} {a : Act} {w : World} {Q : Exit → Act → World → Prop} (hgd : o.guard = none) (s x : Operand) (t : TypeId)
  (ho : o.op = .call { callee := .builtin .append, args := #[s, x], argTypes := #[t, t] })
  (base : Nat) (e : TypeId) (i : TypeInfo) (z : Value) (bytes : Nat) (ht : P.underlying t = some (.slice e)) (hi : P.info? e = some i) (hz : i.zero = some z)
  (hsize : i.size = k) (hby : i.bytes = bytes) (hzs : z.cells.size = k) (v : Value) (n : Nat) (xs : List Value) (hs : a.eval s = v) (hown : w.ownsRow base e k v n xs)
  (lo : Nat) (ys : List α) (hsrc : SliceK k enc lo w (a.eval x) ys) (h63 : n + ys.length ≤ maxLen) (hbytes : (n + ys.length) * bytes ≤ 140737488355328) (hbase : base ≤ w.heap.size)
  (h : ∀ v' w', w'.ownsRow base e k v' (n + ys.length) (xs ++ ys.flatMap enc) → w.grownBy w' v.ownBlock → wpList P ops Q rest (a.put o.dst v') w') :
  wpList P ops Q (o :: rest) a w := by
 obtain ⟨ad, cap, hx, -, -, hrow⟩ := hsrc
 rcases hrow with hz0 | ⟨b, off, rfl, -, hb, hc⟩
 ·obtain rfl : ys = [] := List.eq_nil_of_length_eq_zero hz0
  cases ad with
  | none =>
   refine wpList_plain hgd fun K hK => ?_
   have hrun := run_append_zero (P := P) (w := w) base t o.type e i k ht hi v n xs hown cap
   unfold Oper.wp
   simp [execOp, ho, resolve, invoke, builtin, hs, hx, hrun, Result.andThen]
   exact hK _ _ (h v w (by simpa using hown) (grown_refl _ _))
  | some ad =>
   exact wpList_append_own w hgd s x t ho base e i z k bytes ht hi hz hsize hby hzs h0 v n xs hs hown ad 0 cap [] hx (by simp) (by simp) (by simp) h63 hbytes hbase (fun v' w' k1 k2 _ => h v' w' (by simpa using k1) k2)
 ·refine wpList_append_own w hgd s x t ho base e i z k bytes ht hi hz hsize hby hzs h0 v n xs hs hown ⟨b, off, none⟩ ys.length cap (ys.flatMap enc) hx (flat_lenC hk ys) ?_ ?_ h63 hbytes hbase (fun v' w' k1 k2 _ => h v' w' k1 k2)
  ·intro j u hu
   have hj : j < ys.length * k := by rw [← flat_lenC hk]; exact (List.getElem?_eq_some_iff.1 hu).1
   have hi' : j / k < ys.length := (Nat.div_lt_iff_lt_mul h0).2 hj
   have hr : j % k < k := Nat.mod_lt _ h0
   have e0 : j / k * k + j % k = j := by rw [Nat.mul_comm]; exact Nat.div_add_mod _ _
   have e1 := flat_at hk ys (j / k) hi' (j % k) hr
   rw [e0, hu] at e1
   have e2 := hc (j / k) hi' (j % k) hr
   rw [← e1, Nat.add_assoc, e0] at e2
   by_cases hj0 : j = 0
   ·subst hj0; (first | (simp [Addr.add]; exact e2) | (simp only [Nat.add_zero] at e2; simpa [Addr.add] using e2))
   ·simp [Addr.add, hj0]; exact e2
  ·intro u hu
   obtain ⟨y, -, hy⟩ := List.mem_flatMap.1 hu
   exact h1 y u hy
theorem encE_one (x : Edge) : ∀ u ∈ encE x, u.oneCell' = true := by
 intro u hu
 simp [encE] at hu
 rcases hu with rfl | rfl | rfl <;> rfl
end Go.Proofs.YtdkbbknhighebaaGreatDoor

namespace Go.Proofs.YtdkbbknhighebaaGreatDoor
open Go Go.RowKit


theorem put4 {w : World} {b : Nat} {x0 x1 x2 x3 v0 v1 v2 v3 : Value} {T : TypeId} (hb : Blk w b [x0, x1, x2, x3] T) : Blk ((((w.setCell ⟨b, 0, none⟩ v0).setCell ⟨b, 1, none⟩ v1).setCell ⟨b, 2, none⟩ v2).setCell ⟨b, 3, none⟩ v3) b [v0, v1, v2, v3] T := (((hb.set 0 v0).set 1 v1).set 2 v2).set 3 v3
theorem own_put {w : World} {base e size n : Nat} {v : Value} {xs : List Value} (h : w.ownsRow base e size v n xs) {b : Nat} {cs : List Value} {t : TypeId} (hb : Blk w b cs t) (he : e ≠ t) (i : Nat) (u : Value) : (w.setCell ⟨b, i, none⟩ u).ownsRow base e size v n xs :=
 h.kept (grown_setCell w ⟨b, i, none⟩ u) (own_type_ne h hb he)
theorem own_put4 {w : World} {b : Nat} {x0 x1 x2 x3 v0 v1 v2 v3 : Value} {T : TypeId} (hb : Blk w b [x0, x1, x2, x3] T) {base e size n : Nat} {v : Value} {xs : List Value} (h : w.ownsRow base e size v n xs) (he : e ≠ T) :
  ((((w.setCell ⟨b, 0, none⟩ v0).setCell ⟨b, 1, none⟩ v1).setCell ⟨b, 2, none⟩ v2).setCell ⟨b, 3, none⟩ v3).ownsRow base e size v n xs :=
 own_put (own_put (own_put (own_put h hb he 0 _) (hb.set 0 _) he 1 _) ((hb.set 0 _).set 1 _) he 2 _) (((hb.set 0 _).set 1 _).set 2 _) he 3 _
theorem below_put4 {B : Nat} {w0 w : World} {b : Nat} {v0 v1 v2 v3 : Value} (h : Below B w0 w) (hb : B ≤ b) : Below B w0 ((((w.setCell ⟨b, 0, none⟩ v0).setCell ⟨b, 1, none⟩ v1).setCell ⟨b, 2, none⟩ v2).setCell ⟨b, 3, none⟩ v3) :=
 (((h.setCell hb _).setCell hb _).setCell hb _).setCell hb _
theorem blk_put {w : World} {b c : Nat} {ds : List Value} {u : TypeId} (h : Blk w c ds u) (i : Nat) (v : Value) (hne : c ≠ b) : Blk (w.setCell ⟨b, i, none⟩ v) c ds u := h.setOther _ _ hne
theorem blk_put4 {w : World} {b c : Nat} {v0 v1 v2 v3 : Value} {ds : List Value} {u : TypeId} (h : Blk w c ds u) (hne : c ≠ b) : Blk ((((w.setCell ⟨b, 0, none⟩ v0).setCell ⟨b, 1, none⟩ v1).setCell ⟨b, 2, none⟩ v2).setCell ⟨b, 3, none⟩ v3) c ds u :=
 (((h.setOther _ _ hne).setOther _ _ hne).setOther _ _ hne).setOther _ _ hne

end Go.Proofs.YtdkbbknhighebaaGreatDoor

namespace Go.Proofs.YtdkbbknhighebaaGreatDoor
open Go Go.RowKit

def idxE (P : Edge → Bool) (xs : List Edge) : Int := if xs.findIdx P < xs.length then (xs.findIdx P : Nat) else -1
theorem idxE_neg {P : Edge → Bool} {xs : List Edge} : idxE P xs = -1 ↔ ∀ x ∈ xs, P x = false := by
 unfold idxE
 by_cases h : xs.findIdx P < xs.length
 ·rw [if_pos h]
  refine ⟨fun e => by omega, fun h2 => ?_⟩
  obtain ⟨x, hx, hp⟩ := List.findIdx_lt_length.1 h
  rw [h2 x hx] at hp
  cases hp
 ·rw [if_neg h]
  refine ⟨fun _ x hx => ?_, fun _ => rfl⟩
  cases hp : P x
  ·rfl
  ·exact absurd (List.findIdx_lt_length.2 ⟨x, hx, hp⟩) h
theorem idxE_any {P : Edge → Bool} {xs : List Edge} : decide (0 ≤ idxE P xs) = xs.any P := by
 unfold idxE
 by_cases h : xs.findIdx P < xs.length
 ·rw [if_pos h]
  obtain ⟨x, hx, hp⟩ := List.findIdx_lt_length.1 h
  rw [List.any_eq_true.2 ⟨x, hx, hp⟩]
  simp
 ·rw [if_neg h]
  have : xs.any P = false := by
   rw [List.any_eq_false]
   intro x hx hp
   exact h (List.findIdx_lt_length.2 ⟨x, hx, hp⟩)
  rw [this]
  rfl
/-- A function of one element that answers P, and turns nothing that was there. -/
def AskE (fid : Nat) (caps : Array Value) (P : Edge → Bool) (xs : List Edge) (B : Nat) (w : World) : Prop :=
 ∀ w', Below B w w' → ∀ x ∈ xs, Calls Tryz.prog fid (#[.agg #[.int .i64 x.src, .int .i64 x.lab, .int .i64 x.dst]] ++ caps) w' fun e w'' => e = .returned (.bool (P x)) ∧ Below w'.heap.size w' w''

set_option maxRecDepth 100000 in
set_option maxHeartbeats 1000000 in
theorem IndexFuncE (lo : Nat) (v : Value) (xs : List Edge) (fid : Nat) (caps : Array Value) (P : Edge → Bool) (w : World) (hv : SliceK 3 encE lo w v xs) (eg : ∀ args w, (callFunc fid args).run Tryz.prog w = .ok (.enter fid args) w) (hP : AskE fid caps P xs w.heap.size w) :
  Calls Tryz.prog 74 #[v, .func (.func fid) #[] caps] w fun e w' => e = .returned (.int .i64 (idxE P xs)) ∧ Below w.heap.size w w' := by
 obtain ⟨a, c, rfl, hcn, hcc, hrow⟩ := hv
 have HR := Lib.hid hrow
 have HP := Lib.hid hP
 clear hP hrow
 go_enter Tryz.func74, Tryz.ntmps74
 go_wp2_with fail
 go_loopw [8] (fun i wr => ∃ k : Nat, k ≤ xs.length ∧ i = .int .i64 k ∧ Below w.heap.size w wr ∧ ∀ j (h : j < xs.length), j < k → P xs[j] = false) (fun i _ => xs.length - (intOf i).toNat)
 case atStart => exact ⟨0, Nat.zero_le _, rfl, Below.refl _ _, fun _ _ h => by omega⟩
 case round =>
  obtain ⟨k, hk, rfl, hbl, ha⟩ := hrel
  have HA := Lib.hid ha
  have HBL := Lib.hid hbl
  clear ha
  by_cases hlt : k < xs.length
  ·obtain ⟨b1, o1, rfl, -, hbs, c1, c2, c3⟩ := (HR.out.below hbl).edge hlt
   clear hbl
   obtain ⟨x, hx⟩ : ∃ x, x = xs[k] := ⟨_, rfl⟩
   rw [← hx] at c1 c2 c3
   have HX := Lib.hid hx
   have HC := Lib.hid (HP.out wr HBL.out x (by rw [hx]; exact List.getElem_mem _))
   obtain ⟨b, hb⟩ : ∃ b, b = P x := ⟨_, rfl⟩
   rw [← hb] at HC
   have HB := Lib.hid hb
   clear hb hx
   go_wp2_with fail
   refine Calls.mono HC.out ?_
   rintro e w1 ⟨rfl, hb1⟩
   have HB1 := Lib.hid (HBL.out.trans (hb1.mono HBL.out.size))
   clear hb1 c1 c2 c3
   cases b
   ·go_wp2_with fail
    go_roundw
    case rel => exact ⟨k + 1, by omega, by go_num, HB1.out, fun j h hj => by
     by_cases e : j = k
     ·subst e; rw [← HX.out]; exact HB.out.symm
     ·exact HA.out j h (by omega)⟩
    case measure => simp [intOf]; omega
   ·have HI : Hid (idxE P xs = (k : Int)) := by
     unfold Hid idxE
     have h1 : xs.findIdx P = k := by
      rw [List.findIdx_eq hlt]
      exact ⟨by rw [← HX.out]; exact HB.out.symm, fun j hj => HA.out j (by omega) hj⟩
     rw [h1, if_pos hlt]
    go_wp2_with fail
    go_ret
    exact ⟨ret_int HI.out.symm, HB1.out⟩
  ·clear hbl
   have HI : Hid (idxE P xs = -1) := by
    unfold Hid
    rw [idxE_neg]
    intro x hx
    obtain ⟨j, hj, rfl⟩ := List.mem_iff_getElem.1 hx
    exact HA.out j hj (by omega)
   go_wp2_with fail
   go_ret
   exact ⟨ret_int HI.out.symm, HBL.out⟩

theorem ContainsFuncE (lo : Nat) (v : Value) (xs : List Edge) (fid : Nat) (caps : Array Value) (P : Edge → Bool) (w : World) (hv : SliceK 3 encE lo w v xs) (eg : ∀ args w, (callFunc fid args).run Tryz.prog w = .ok (.enter fid args) w) (hP : AskE fid caps P xs w.heap.size w) :
  Calls Tryz.prog 51 #[v, .func (.func fid) #[] caps] w fun e w' => e = .returned (.bool (xs.any P)) ∧ Below w.heap.size w w' := by
 have HC := Lib.hid (IndexFuncE lo v xs fid caps P w hv eg hP)
 clear hP
 go_enter Tryz.func51, Tryz.ntmps51
 go_wp2_with fail
 refine Calls.mono HC.out ?_
 rintro e w' ⟨rfl, hb⟩
 have HB := Lib.hid hb
 clear hb
 go_wp2_with fail
 go_ret
 exact ⟨ret_bool idxE_any, HB.out⟩

end Go.Proofs.YtdkbbknhighebaaGreatDoor

namespace Go.Proofs.YtdkbbknhighebaaGreatDoor
open Go Go.RowKit


theorem only_results {w : World} {b : Nat} {v0 v1 v2 v3 : Value} {tmps : Array Value} (hc : tmps.getD 4 undef = .pointer (some ⟨b, 0, none⟩)) (hb : Blk w b [v0, v1, v2, v3] 27) :
  (results Tryz.f22 tmps).run Tryz.prog w = .ok (.agg #[v0, v1, v2, v3]) w := by
 have h0 := hb.cell 0 rfl
 have h1 := hb.cell 1 rfl
 have h2 := hb.cell 2 rfl
 have h3 := hb.cell 3 rfl
 simp only [Array.getD_eq_getD_getElem?] at hc
 simp [results, Tryz.results22, go_sem, hc, h0, h1, h2, h3, Result.andThen]
theorem clone_results {w : World} {b : Nat} {v0 v1 v2 v3 : Value} {tmps : Array Value} (hc : tmps.getD 2 undef = .pointer (some ⟨b, 0, none⟩)) (hb : Blk w b [v0, v1, v2, v3] 27) :
  (results Tryz.f47 tmps).run Tryz.prog w = .ok (.agg #[v0, v1, v2, v3]) w := by
 have h0 := hb.cell 0 rfl
 have h1 := hb.cell 1 rfl
 have h2 := hb.cell 2 rfl
 have h3 := hb.cell 3 rfl
 simp only [Array.getD_eq_getD_getElem?] at hc
 simp [results, Tryz.results47, go_sem, hc, h0, h1, h2, h3, Result.andThen]

theorem eqNilE (a : Option Addr) (l c : Nat) (w : World) : (binOp .eql 25 (.slice a l c) (.slice none 0 0)).run Tryz.prog w = .ok (.bool a.isNone) w := by
 simp only [binOp]
 simp [run_equal_slice_nil w 25 47 a l c Tryz.underlying25]

set_option maxRecDepth 100000 in
theorem CloneE_own (lo : Nat) (v : Value) (xs : List Edge) (w : World) (hv : SliceK 3 encE lo w v xs) (hz : xs.length ≤ 1048576) :
  Calls Tryz.prog 69 #[v] w fun e w' => ∃ v', e = .returned v' ∧ w'.ownsRow w.heap.size 47 3 v' xs.length (xs.flatMap encE) ∧ Below w.heap.size w w' := by
 obtain ⟨i0, hi, hz0, hz1, hz2⟩ := info_parts info_edge2
 obtain ⟨a, c, rfl, hn, hc, hrow⟩ := id hv
 cases a with
 | none =>
  have h0 : xs.length = 0 := by
   rcases hrow with h | ⟨b, o, h, -⟩
   ·exact h
   ·cases h
  have hx : xs = [] := List.eq_nil_of_length_eq_zero h0
  subst hx
  clear hv hn hc hrow hz h0
  go_enter Tryz.func69, Tryz.ntmps69
  have hq := eqNilE none 0 c w
  simp only [Option.isNone_none] at hq
  go_wp2
  go_ret
  exact ⟨_, rfl, World.ownsRow_nil _ _ _ _, Below.refl _ _⟩
 | some a =>
  have ho : Hid ((w.alloc (.cells #[] 47)).ownsRow w.heap.size 47 3 (.slice (some ⟨w.heap.size, 0, none⟩) 0 0) 0 []) := World.ownsRow_lit (base := w.heap.size) (e := 47) (size := 3) w #[] 0 (Nat.le_refl _) (by simp [maxLen]) rfl
  have hb : Below w.heap.size w (w.alloc (.cells #[] 47)) := (Below.refl _ _).alloc (Nat.le_refl _) _
  have HS := Lib.hid (hv.below hb)
  have HB := Lib.hid hb
  obtain ⟨XL, hXL⟩ : ∃ XL, XL = xs.length := ⟨_, rfl⟩
  rw [← hXL] at HS hz
  rw [← hXL]
  have HXL := Lib.hid hXL
  have hq := eqNilE (some a) XL c w
  simp only [Option.isNone_some] at hq
  clear hv hn hc hrow hb hXL
  go_enter Tryz.func69, Tryz.ntmps69
  go_wp2_with (at_builtin; refine append_slice encE_len encE_one (by decide) rfl _ _ 25 rfl w.heap.size 47 i0 (.agg #[.int .i64 0, .int .i64 0, .int .i64 0]) 24 Tryz.underlying25 hi hz0 hz1 hz2 rfl _ _ _ rfl ho.out lo xs HS.out ?_ ?_ ?_ ?_)
  ·rw [← HXL.out]; simp [maxLen]; omega
  ·rw [← HXL.out]; omega
  ·simp
  intro v' w' ho' hg'
  have HO : Hid (w'.ownsRow w.heap.size 47 3 v' XL (xs.flatMap encE)) := by
   unfold Hid
   rw [HXL.out]
   simpa using ho'
  have HB2 : Hid (Below w.heap.size w w') := HB.out.grown hg' (by simp) (fun b e => (ho.out.lt b e).1)
  clear ho' hg'
  go_wp2
  go_ret
  exact ⟨_, rfl, HO.out, HB2.out⟩

set_option maxRecDepth 100000 in
set_option maxHeartbeats 2000000 in
theorem only_any (lo fid : Nat) (caps : Array Value) (K : Edge → Bool) (t : Lts) (lv ev : Value) (w : World) (hz : t.edges.length ≤ 1048576) (hl : ∃ p n c, lv = .slice p n c) (he : SliceK 3 encE lo w ev t.edges) (eg : ∀ args w, (callFunc fid args).run Tryz.prog w = .ok (.enter fid args) w) (hK : AskE fid caps K t.edges w.heap.size w) :
  Calls Tryz.prog 22 #[.agg #[.int .i64 t.states, .int .i64 t.initial, lv, ev], .func (.func fid) #[] caps] w fun e w' => ∃ ev', e = .returned (.agg #[.int .i64 t.states, .int .i64 t.initial, lv, ev']) ∧ Below w.heap.size w w' ∧ w'.ownsRow w.heap.size 47 3 ev' (t.edges.filter K).length ((t.edges.filter K).flatMap encE) := by
 obtain ⟨l1, l2, l3, rfl⟩ := hl
 obtain ⟨ea, ec, rfl, hen, hec, hrow⟩ := he
 obtain ⟨i0, hi, hz0, hz1, hz2⟩ := info_parts info_edge2
 obtain ⟨B, hB⟩ : ∃ B, B = w.heap.size := ⟨_, rfl⟩
 obtain ⟨rc, hrc⟩ : ∃ rc, rc = w.heap.size + 1 := ⟨_, rfl⟩
 obtain ⟨ob, hob⟩ : ∃ ob, ob = w.heap.size + 1 + 1 := ⟨_, rfl⟩
 obtain ⟨EN, hEN⟩ : ∃ EN, EN = t.edges.length := ⟨_, rfl⟩
 rw [← hEN] at hz hen
 rw [← hEN]
 obtain ⟨W, hW⟩ : ∃ W, W = ((w.alloc (.cells #[.int .i64 t.states, .int .i64 t.initial, .slice l1 l2 l3, .slice ea EN ec] 27)).alloc (.cells #[.int .i64 0, .int .i64 0, .slice none 0 0, .slice none 0 0] 27)).alloc (.cells #[.int .i64 t.states, .int .i64 t.initial, .slice l1 l2 l3, .slice none 0 0] 27) := ⟨_, rfl⟩
 have hb : Below w.heap.size w W := by rw [hW]; exact (((Below.refl _ _).alloc (Nat.le_refl _) _).alloc (by simp) _).alloc (by simp; omega) _
 have hR : Blk W rc [.int .i64 0, .int .i64 0, .slice none 0 0, .slice none 0 0] 27 := by
  have h := (Blk.new (w.alloc (.cells #[.int .i64 t.states, .int .i64 t.initial, .slice l1 l2 l3, .slice ea EN ec] 27)) [.int .i64 0, .int .i64 0, .slice none 0 0, .slice none 0 0] 27).alloc (.cells #[.int .i64 t.states, .int .i64 t.initial, .slice l1 l2 l3, .slice none 0 0] 27)
  rw [World.size_alloc, ← hrc] at h
  rw [hW]
  exact h
 have hO : Blk W ob [.int .i64 t.states, .int .i64 t.initial, .slice l1 l2 l3, .slice none 0 0] 27 := by
  have h := Blk.new ((w.alloc (.cells #[.int .i64 t.states, .int .i64 t.initial, .slice l1 l2 l3, .slice ea EN ec] 27)).alloc (.cells #[.int .i64 0, .int .i64 0, .slice none 0 0, .slice none 0 0] 27)) [.int .i64 t.states, .int .i64 t.initial, .slice l1 l2 l3, .slice none 0 0] 27
  rw [World.size_alloc, World.size_alloc, ← hob] at h
  rw [hW]
  exact h
 have hBr : B ≤ rc := by omega
 have hBo : B ≤ ob := by omega
 have hne : rc ≠ ob := by omega
 have HB := Lib.hid hB
 have HRC := Lib.hid hrc
 have HOB := Lib.hid hob
 have HEN := Lib.hid hEN
 have HW := Lib.hid hW
 have HR := Lib.hid hR
 have HO := Lib.hid hO
 have HBB : Hid (Below B w W) := by unfold Hid; rw [hB]; exact hb
 have HER := Lib.hid hrow
 have HK := Lib.hid hK
 have HNE := Lib.hid hne
 clear hB hrc hob hEN hW hb hR hO hrow hK hne
 go_enter Tryz.func22, Tryz.ntmps22
 go_wp2_with fail
 rw [← HW.out]
 rw [← HOB.out, ← HRC.out]
 go_loopw [18] (fun v18 wr => ∃ (k : Nat) (p : Option Addr) (c : Nat), k ≤ EN ∧ v18 = .int .i64 k ∧ Below B w wr ∧ Blk wr rc [.int .i64 0, .int .i64 0, .slice none 0 0, .slice none 0 0] 27 ∧ Blk wr ob [.int .i64 t.states, .int .i64 t.initial, .slice l1 l2 l3, .slice p ((t.edges.take k).filter K).length c] 27 ∧ wr.ownsRow B 47 3 (.slice p ((t.edges.take k).filter K).length c) ((t.edges.take k).filter K).length (((t.edges.take k).filter K).flatMap encE)) (fun v18 _ => EN - (intOf v18).toNat)
 case atStart => exact ⟨0, none, 0, Nat.zero_le _, rfl, HBB.out, HR.out, HO.out, World.ownsRow_nil _ _ _ _⟩
 case round =>
  clear HBB HR HO
  obtain ⟨k, p, c, hk, rfl, hbl, hr, ho, hown⟩ := hrel
  obtain ⟨wC, rfl⟩ : ∃ wC : World, wC = wr := ⟨_, rfl⟩
  have HBL := Lib.hid hbl
  have HR := Lib.hid hr
  have HO := Lib.hid ho
  have HOW := Lib.hid hown
  obtain ⟨F, hF⟩ : ∃ F, F = (t.edges.take k).filter K := ⟨_, rfl⟩
  have hfl : F.length ≤ k := by rw [hF]; exact Nat.le_trans (List.length_filter_le _ _) (List.length_take_le _ _)
  rw [← hF] at HO HOW
  have HF := Lib.hid hF
  obtain ⟨FL, hFL⟩ : ∃ FL, FL = F.length := ⟨_, rfl⟩
  rw [← hFL] at HO HOW hfl
  have HFL := Lib.hid hFL
  have hszC : w.heap.size ≤ wC.heap.size := by have := hbl.size; have := HB.out; omega
  have hBC : B ≤ wC.heap.size := by have := HB.out; omega
  clear hbl hr ho hown hF hFL
  by_cases hlt : k < EN
  ·have hkE : k < t.edges.length := by rw [← HEN.out]; exact hlt
   have hb9 : Below w.heap.size w wC := by have := HBL.out; rw [HB.out] at this; exact this
   obtain ⟨be, oe, rfl, -, hbe, e1, e2, e3⟩ := (HER.out.below hb9).edge hkE
   have hty : K t.edges[k] = false → (t.edges.take (k + 1)).filter K = F := fun g => by rw [List.take_succ_eq_append_getElem hkE, List.filter_append, HF.out]; simp [g]
   have hty2 : K t.edges[k] = true → (t.edges.take (k + 1)).filter K = F ++ [t.edges[k]] := fun g => by rw [List.take_succ_eq_append_getElem hkE, List.filter_append, HF.out]; simp [g]
   have hmem : t.edges[k] ∈ t.edges := List.getElem_mem hkE
   obtain ⟨q, hq⟩ : ∃ q, q = t.edges[k] := ⟨_, rfl⟩
   rw [← hq] at e1 e2 e3 hty hty2 hmem
   obtain ⟨W2, hW2⟩ : ∃ W2, W2 = wC.alloc (.cells #[.int .i64 q.src, .int .i64 q.lab, .int .i64 q.dst] 47) := ⟨_, rfl⟩
   obtain ⟨eb, heb⟩ : ∃ eb, eb = wC.heap.size := ⟨_, rfl⟩
   have hb2 : Below wC.heap.size wC W2 := by rw [hW2]; exact (Below.refl _ _).alloc (Nat.le_refl _) _
   have hE : Blk W2 eb [.int .i64 q.src, .int .i64 q.lab, .int .i64 q.dst] 47 := by rw [hW2, heb]; exact Blk.new wC _ _
   have HE := Lib.hid hE
   have HB2 : Hid (Below B w W2) := HBL.out.trans (hb2.mono hBC)
   have HR2 := Lib.hid (HR.out.below hb2)
   have HO2 := Lib.hid (HO.out.below hb2)
   have HOW2 := Lib.hid (owns_below HOW.out hb2)
   have HC := Lib.hid (HK.out W2 (by have := HB2.out; rw [HB.out] at this; exact this) q hmem)
   obtain ⟨g, hg⟩ : ∃ g, g = K q := ⟨_, rfl⟩
   rw [← hg] at HC hty hty2
   have HTY := Lib.hid hty
   have HTY2 := Lib.hid hty2
   have HW2 := Lib.hid hW2
   have HEB := Lib.hid heb
   have hB2 : B ≤ W2.heap.size := Nat.le_trans hBC hb2.size
   clear hty hty2 hmem hq hW2 heb hb2 hE hg hb9
   go_wp2_with fail
   rw [← HW2.out]
   try rw [← HEB.out]
   refine Calls.mono HC.out ?_
   rintro e w3 ⟨rfl, hb3⟩
   have HB3 : Hid (Below B w w3) := HB2.out.trans (hb3.mono hB2)
   have HR3 := Lib.hid (HR2.out.below hb3)
   have HO3 := Lib.hid (HO2.out.below hb3)
   have HOW3 := Lib.hid (owns_below HOW2.out hb3)
   have HE3 := Lib.hid (HE.out.below hb3)
   have hB3 : B ≤ w3.heap.size := Nat.le_trans hB2 hb3.size
   clear hb3 HC e1 e2 e3
   cases g
   ·have HT := Lib.hid (HTY.out rfl)
    go_wp2
    go_roundw
    case rel => exact ⟨k + 1, p, c, by omega, by go_num, HB3.out, HR3.out, by rw [HT.out, ← HFL.out]; exact HO3.out, by rw [HT.out, ← HFL.out]; exact HOW3.out⟩
    case measure => simp [intOf]; omega
   ·have HT := Lib.hid (HTY2.out rfl)
    have f0 := HE3.out.cell 0 rfl
    have f1 := HE3.out.cell 1 rfl
    have f2 := HE3.out.cell 2 rfl
    have o3 := HO3.out.cell 3 rfl
    have hol := HO3.out.lt
    go_wp2_with (at_builtin; refine wpList_append_own _ rfl _ _ 25 rfl B 47 i0 (.agg #[.int .i64 0, .int .i64 0, .int .i64 0]) 3 24 Tryz.underlying25 hi hz0 hz1 hz2 rfl (by decide) _ _ _ rfl (HOW3.out.alloc _) ⟨w3.heap.size, 0, none⟩ 1 1 (encE q) rfl rfl ?c1 ?c2 ?c3 ?c4 ?c5 ?_)
    case c1 => have := three_new w3 q 47; simpa using this
    case c2 => exact encE_one _
    case c3 => simp [maxLen]; omega
    case c4 => omega
    case c5 => simp; omega
    intro v' w4 ho4 hg4 _
    have hal : Below w3.heap.size w3 (w3.alloc (.cells #[.int .i64 q.src, .int .i64 q.lab, .int .i64 q.dst] 47)) := (Below.refl _ _).alloc (Nat.le_refl _) _
    have HB4 : Hid (Below B w w4) := (HB3.out.trans (hal.mono hB3)).grown hg4 (by simp; omega) (fun b e => (HOW3.out.lt b e).1)
    have hot := own_type_ne (owns_below HOW3.out hal) (HO3.out.below hal) (by decide)
    have hrt := own_type_ne (owns_below HOW3.out hal) (HR3.out.below hal) (by decide)
    have HO4 : Hid (Blk w4 ob [.int .i64 t.states, .int .i64 t.initial, .slice l1 l2 l3, .slice p FL c] 27) := (hg4.block ob (HO3.out.below hal).lt (by rcases hot with h | h <;> intro e <;> rw [← e] at h <;> simp at h)).trans (HO3.out.below hal)
    have HR4 : Hid (Blk w4 rc [.int .i64 0, .int .i64 0, .slice none 0 0, .slice none 0 0] 27) := (hg4.block rc (HR3.out.below hal).lt (by rcases hrt with h | h <;> intro e <;> rw [← e] at h <;> simp at h)).trans (HR3.out.below hal)
    obtain ⟨p4, c4, rfl, -, -⟩ := owns_slice ho4
    have HOW4 : Hid (w4.ownsRow B 47 3 (.slice p4 (FL + 1) c4) (FL + 1) ((F ++ [q]).flatMap encE)) := by
     unfold Hid
     rw [List.flatMap_append, List.flatMap_singleton]
     exact ho4
    have HOW5 := Lib.hid (own_put (i := 3) (u := .slice p4 (FL + 1) c4) HOW4.out HO4.out (by decide))
    have HO5 := Lib.hid (HO4.out.set 3 (.slice p4 (FL + 1) c4))
    have HR5 := Lib.hid (blk_put HR4.out 3 (.slice p4 (FL + 1) c4) HNE.out)
    have o34 := HO4.out.cell 3 rfl
    have o35 := HO4.out.frozen 3
    clear ho4 hg4 hal hot hrt f0 f1 f2 o3
    go_wp2
    go_roundw
    case rel => exact ⟨k + 1, p4, c4, by omega, by go_num, HB4.out.setCell hBo _, HR5.out, by rw [HT.out, List.length_append, List.length_singleton, ← HFL.out]; exact HO5.out, by rw [HT.out, List.length_append, List.length_singleton, ← HFL.out]; exact HOW5.out⟩
    case measure => simp [intOf]; omega
  ·have HKE : Hid (k = EN) := Lib.hid (show k = EN by omega)
   have o0 := HO.out.cell 0 rfl
   have o1 := HO.out.cell 1 rfl
   have o2 := HO.out.cell 2 rfl
   have o3 := HO.out.cell 3 rfl
   have r0 := HR.out.cell 0 rfl
   have r1 := HR.out.cell 1 rfl
   have r2 := HR.out.cell 2 rfl
   have r3 := HR.out.cell 3 rfl
   have s0 := HR.out.frozen 0
   have s1 := HR.out.frozen 1
   have s2 := HR.out.frozen 2
   have s3 := HR.out.frozen 3
   go_wp2
   refine bodyPost_ret (only_results rfl (put4 HR.out)) rfl ?_
   have hf : t.edges.filter K = F := by rw [HF.out, HKE.out, HEN.out, List.take_length]
   refine ⟨_, rfl, ?_, ?_⟩
   ·have := below_put4 (v0 := .int .i64 t.states) (v1 := .int .i64 t.initial) (v2 := .slice l1 l2 l3) (v3 := .slice p FL c) HBL.out hBr
    rw [HB.out] at this
    exact this
   ·rw [hf, ← HFL.out, ← HB.out]
    exact own_put4 HR.out HOW.out (by decide)

end Go.Proofs.YtdkbbknhighebaaGreatDoor
