/-
  The edges found stand in ascending order of where they begin and of their labels.
  Steps of the search as the loops make them: the place of a set among the rows, when the net is too large, when it is whole.
  Plain laws for lts within determinize: the labels in use, the edges by them, that they lead back.
  The labels of two systems together: the reference's list of them, kept in order by insertion, is the set of all labels.
  The reference's l11Join: the set of all labels.
-/
import Derived.Test.YthofaoabgbgbdaaGreatDoorG6
import Derived.Test.YthofaoabgbgbdaaGreatDoorG9
import Derived.Test.YthofaoabgbgbdaaGreatDoorG4
import Derived.Test.YthofaoabgbgbdaaGreatDoorG7
namespace Go.Proofs.YthofaoabgbgbdaaGreatDoor
open Go Go.RowKit

/-- Ascending, and no edge behind the label number j of the row n. -/
def EdgesUp (n j : Int) (es : List Edge) : Prop := es.Pairwise (fun a b => a.src < b.src ∨ (a.src = b.src ∧ a.lab < b.lab)) ∧ ∀ e ∈ es, e.src < n ∨ (e.src = n ∧ e.lab ≤ j)
theorem EdgesUp.step {t : Lts} {i k : Nat} {cur : List Int} {st : DNet} (h : EdgesUp i k st.edges) : EdgesUp i ((k : Int) + 1) (dstep t i cur st k).edges := by
 unfold dstep
 split
 ·exact ⟨h.1, fun e he => by rcases h.2 e he with h | h <;> omega⟩
 ·refine ⟨?_, fun e he => ?_⟩
  ·show (st.edges ++ [_]).Pairwise _
   rw [List.pairwise_append]
   refine ⟨h.1, by simp, fun a ha b hb => ?_⟩
   rw [List.mem_singleton] at hb
   subst hb
   rcases h.2 a ha with h | h
   ·exact .inl h
   ·exact .inr ⟨h.1, by show a.lab < (k : Int) + 1; omega⟩
  ·rcases List.mem_append.1 he with he | he
   ·rcases h.2 e he with h | h <;> omega
   ·rw [List.mem_singleton] at he
    subst he
    exact .inr ⟨rfl, Int.le_refl _⟩
theorem EdgesUp.mid {t : Lts} {i : Nat} {cur : List Int} {st : DNet} (h : EdgesUp i 0 st.edges) : ∀ j : Nat, EdgesUp i j (dmid t i cur st j).edges
 | 0 => by rw [dmid_zero]; exact h
 | j + 1 => by
  rw [dmid_succ]
  exact (EdgesUp.mid h j).step
theorem EdgesUp.at (t : Lts) : ∀ n : Nat, EdgesUp n 0 (dAt t n).edges
 | 0 => ⟨by simp [dAt], by simp [dAt]⟩
 | n + 1 => by
  have h := EdgesUp.at t n
  rw [dAt]
  unfold drow
  split
  ·exact ⟨h.1, fun e he => by rcases h.2 e he with h | h <;> omega⟩
  ·have h2 := EdgesUp.mid (t := t) (cur := by assumption) h (t.labels.length - 1)
   exact ⟨h2.1, fun e he => by rcases h2.2 e he with h | h <;> omega⟩

end Go.Proofs.YthofaoabgbgbdaaGreatDoor

namespace Go.Proofs.YthofaoabgbgbdaaGreatDoor
open Go Go.RowKit

/-- The place found among the first m rows, or -1. -/
def seenAt (rows : List (List Int)) (r : List Int) (m : Nat) : Int := if dplace rows r < m then (dplace rows r : Int) else -1
theorem seenAt_zero (rows : List (List Int)) (r : List Int) : seenAt rows r 0 = -1 := by unfold seenAt; rw [if_neg (by omega)]
theorem seenAt_hit {rows : List (List Int)} {r : List Int} {m : Nat} (hn : rows.Nodup) (hm : m < rows.length) (h : (rows[m] == r) = true) : seenAt rows r (m + 1) = m := by
 have := dplace_eq hn hm (eq_of_beq h)
 unfold seenAt
 rw [this, if_pos (by omega)]
theorem seenAt_miss {rows : List (List Int)} {r : List Int} {m : Nat} (hm : m < rows.length) (h : (rows[m] == r) = false) : seenAt rows r (m + 1) = seenAt rows r m := by
 have hne : dplace rows r ≠ m := by
  intro e
  have h2 := dplace_get (rows := rows) (q := r) (by omega)
  have h3 : rows[m] = r := by
   rw [← h2]
   congr 1
   exact e.symm
  rw [h3] at h
  simp at h
 unfold seenAt
 by_cases h1 : dplace rows r < m
 ·rw [if_pos h1, if_pos (by omega)]
 ·rw [if_neg h1, if_neg (by omega)]

theorem dstep_none {t : Lts} {i : Nat} {cur : List Int} {st : DNet} {k : Nat} (h : nextS t cur (k + 1) = []) : dstep t i cur st k = st := by unfold dstep; rw [if_pos h]
theorem dstep_old {t : Lts} {i : Nat} {cur : List Int} {st : DNet} {k : Nat} (h : nextS t cur (k + 1) ≠ []) (hp : dplace st.rows (nextS t cur (k + 1)) < st.rows.length) :
  dstep t i cur st k = ⟨st.rows, st.edges ++ [⟨(i : Int), (k : Int) + 1, (dplace st.rows (nextS t cur (k + 1)) : Int)⟩]⟩ := by
 unfold dstep dadd
 rw [if_neg h, if_pos hp]
theorem dstep_new {t : Lts} {i : Nat} {cur : List Int} {st : DNet} {k : Nat} (h : nextS t cur (k + 1) ≠ []) (hp : ¬ dplace st.rows (nextS t cur (k + 1)) < st.rows.length) :
  dstep t i cur st k = ⟨st.rows ++ [nextS t cur (k + 1)], st.edges ++ [⟨(i : Int), (k : Int) + 1, (st.rows.length : Int)⟩]⟩ := by
 have h2 := dplace_le st.rows (nextS t cur (k + 1))
 have h3 : dplace st.rows (nextS t cur (k + 1)) = st.rows.length := by omega
 unfold dstep dadd
 rw [if_neg h, if_neg hp, h3]

/-- A row too many. -/
theorem DFull.row {t : Lts} {n j : Nat} {cur : List Int} (hc : DCome t n) (hcur : (dAt t n).rows[n]? = some cur) (hj : j < t.labels.length - 1) (h : nextS t cur (j + 1) ≠ [])
  (hp : ¬ dplace (dmid t n cur (dAt t n) j).rows (nextS t cur (j + 1)) < (dmid t n cur (dAt t n) j).rows.length) (h40 : (dmid t n cur (dAt t n) j).rows.length = 40) : DFull t := by
 refine ⟨n, j + 1, cur, hc, hcur, hj, fun hs => ?_⟩
 rw [dmid_succ, dstep_new h hp] at hs
 have := hs.1
 simp only [List.length_append, List.length_singleton] at this
 omega
/-- An edge too many. -/
theorem DFull.edge {t : Lts} {n j : Nat} {cur : List Int} (hc : DCome t n) (hcur : (dAt t n).rows[n]? = some cur) (hj : j < t.labels.length - 1) (h : nextS t cur (j + 1) ≠ [])
  (h300 : (dmid t n cur (dAt t n) j).edges.length = 300) : DFull t := by
 refine ⟨n, j + 1, cur, hc, hcur, hj, fun hs => ?_⟩
 rw [dmid_succ] at hs
 unfold dstep at hs
 rw [if_neg h] at hs
 have := hs.2
 simp only [List.length_append, List.length_singleton] at this
 omega
theorem dAt_succ {t : Lts} {n : Nat} {cur : List Int} (hcur : (dAt t n).rows[n]? = some cur) : dAt t (n + 1) = dmid t n cur (dAt t n) (t.labels.length - 1) := by
 rw [dAt]
 unfold drow
 rw [hcur]
theorem DOk.done {t : Lts} {n : Nat} (hc : DCome t n) (hs : DSmall (dAt t n)) (hn : ¬ n < (dAt t n).rows.length) : DOk t (dAt t n) := by
 refine ⟨⟨n, hc, rfl, ?_⟩, hs⟩
 have h1 : n ≤ (dAt t n).rows.length := by
  cases n with
  | zero => omega
  | succ m =>
   have h2 := hc m (by omega)
   obtain ⟨⟨r, hr⟩, -⟩ := dAt_le t m 1
   rw [hr, List.length_append]
   omega
 omega

end Go.Proofs.YthofaoabgbgbdaaGreatDoor

namespace Go.Proofs.YthofaoabgbgbdaaGreatDoor
open Go Go.RowKit

theorem tauT_list : tauT.toList = tauB := by rw [Lib.toList_data]; rfl
theorem labels_pair {ls : List ByteArray} (h : LabelsOk ls) : (ls.map (·.data.toList)).Pairwise fun a b => lessL a b = true := by
 rw [List.pairwise_map, List.pairwise_iff_getElem]
 intro i j hi hj hij
 rw [← Lib.toList_data, ← Lib.toList_data, lessL_iff]
 have hne : ls[i].toList ≠ ls[j].toList := fun e => by have := labels_inj h i j hi hj e; omega
 refine ⟨hne, ?_⟩
 by_cases h0 : i = 0
 ·subst h0; exact .inl (h.first hi)
 ·refine .inr ⟨h.other j hj (by omega), ?_⟩
  have := labels_less h i j (by omega) hij hj
  unfold strLess at this
  rw [less_lt, decide_eq_true_eq] at this
  exact this
/-- Labels in strict order, tau among them. -/
theorem labelsOk_of {L : List ByteArray} (hp : (L.map (·.data.toList)).Pairwise fun a b => lessL a b = true) (ht : tauT ∈ L) (hn : L.length ≤ 12) (hok : ∀ l ∈ L, l ≠ tauT → labelOk l.data.toList = true) : LabelsOk L := by
 rw [List.pairwise_map, List.pairwise_iff_getElem] at hp
 obtain ⟨k, hk, hkt⟩ := List.mem_iff_getElem.1 ht
 have h0 : k = 0 := by
  rcases Nat.eq_zero_or_pos k with h | h
  ·exact h
  ·have := hp 0 k (by omega) hk h
   rw [hkt, ← Lib.toList_data, ← Lib.toList_data, tauT_list, lessL_iff] at this
   rcases this.2 with h1 | h1
   ·exact absurd h1 this.1
   ·exact absurd rfl h1.1
 subst h0
 have hoth : ∀ i (h : i < L.length), 1 ≤ i → L[i].toList ≠ tauB := fun i hi h1 e => by
  have := hp 0 i hk hi (by omega)
  rw [hkt, ← Lib.toList_data, ← Lib.toList_data, tauT_list, e, lessL_irrefl] at this
  cases this
 refine ⟨by omega, hn, fun h => by rw [hkt, tauT_list], fun i hi h1 => hok _ (List.getElem_mem hi) (fun e => hoth i hi h1 (by rw [e, tauT_list])), hoth, fun i hi h1 => ?_⟩
 have := hp i (i + 1) (by omega) hi (by omega)
 rw [← Lib.toList_data, ← Lib.toList_data, lessL_iff] at this
 unfold strLess
 rw [less_lt, decide_eq_true_eq]
 rcases this.2 with h2 | h2
 ·exact absurd h2 (hoth i (by omega) h1)
 ·exact h2.2

/-- The labels in use. -/
theorem used_is {ls us : List ByteArray} (h : LabelsOk ls) (hu : ∀ l ∈ us, l ∈ ls) : LabelsOk (labSet (tauT :: us)) ∧ (∀ l, l ∈ labSet (tauT :: us) ↔ l ∈ tauT :: us) := by
 have h0 : tauT ∈ ls := by
  have : ls[0]'h.pos = tauT := toList_inj (by rw [h.first h.pos, tauT_list])
  rw [← this]
  exact List.getElem_mem _
 have he : labSet (tauT :: us) = ls.filter fun l => @decide (l ∈ tauT :: us) (Classical.propDecidable _) := by
  refine labSet_eq ?_ fun x => ?_
  ·rw [List.pairwise_map]
   exact List.Pairwise.filter _ (List.pairwise_map.1 (labels_pair h))
  ·rw [List.mem_filter, @decide_eq_true_eq _ (Classical.propDecidable _)]
   refine ⟨fun hx => ⟨?_, hx⟩, fun hx => hx.2⟩
   rcases List.mem_cons.1 hx with rfl | hx
   ·exact h0
   ·exact hu x hx
 have hm : ∀ l, l ∈ labSet (tauT :: us) ↔ l ∈ tauT :: us := fun l => by
  rw [he, List.mem_filter, @decide_eq_true_eq _ (Classical.propDecidable _)]
  refine ⟨fun hx => hx.2, fun hx => ⟨?_, hx⟩⟩
  rcases List.mem_cons.1 hx with rfl | hx
  ·exact h0
  ·exact hu l hx
 refine ⟨labelsOk_of ?_ ((hm _).2 (by simp)) ?_ fun l hl hne => ?_, hm⟩
 ·rw [he, List.pairwise_map]
  exact List.Pairwise.filter _ (List.pairwise_map.1 (labels_pair h))
 ·rw [he]
  exact Nat.le_trans (List.length_filter_le _ _) h.most
 ·have : l ∈ ls := by
   rcases List.mem_cons.1 ((hm l).1 hl) with rfl | hx
   ·exact absurd rfl hne
   ·exact hu l hx
  obtain ⟨i, hi, rfl⟩ := List.mem_iff_getElem.1 this
  rcases Nat.eq_zero_or_pos i with h1 | h1
  ·subst h1
   exact absurd (toList_inj (by rw [h.first hi, tauT_list])) hne
  ·exact h.label i hi h1
theorem all_used {ls : List ByteArray} (h : LabelsOk ls) : labSet (tauT :: ls) = ls := by
 refine labSet_eq (labels_pair h) fun x => ?_
 have h0 : tauT ∈ ls := by
  have : ls[0]'h.pos = tauT := toList_inj (by rw [h.first h.pos, tauT_list])
  rw [← this]
  exact List.getElem_mem _
 rw [List.mem_cons]
 exact ⟨fun hx => hx.elim (fun e => e ▸ h0) id, .inr⟩

/-- In a list of labels in order, places go with the order. -/
theorem idxL_mono {L : List ByteArray} (h : LabelsOk L) {a b : ByteArray} (ha : a ∈ L) (hb : b ∈ L) (hl : lessL a.toList b.toList = true) : idxL L a < idxL L b := by
 obtain ⟨h1, h2, -⟩ := idxL_get ha
 obtain ⟨h3, h4, -⟩ := idxL_get hb
 have hp := labels_pair h
 rw [List.pairwise_map, List.pairwise_iff_getElem] at hp
 rcases Nat.lt_trichotomy (idxL L a) (idxL L b) with h5 | h5 | h5
 ·exact h5
 ·exfalso
  have : a = b := by rw [← h2, ← h4]; congr 1
  rw [this, lessL_irrefl] at hl
  cases hl
 ·exfalso
  have := hp _ _ h3 h1 h5
  rw [h2, h4, ← Lib.toList_data, ← Lib.toList_data] at this
  have h6 := lessL_trans _ _ _ hl this
  rw [lessL_irrefl] at h6
  cases h6
theorem idxL_at {L : List ByteArray} (h : LabelsOk L) {k : Nat} (hk : k < L.length) : idxL L L[k] = k := by
 obtain ⟨h1, h2, -⟩ := idxL_get (List.getElem_mem hk)
 exact labels_inj h _ _ h1 hk (by rw [h2])

/-- The arcs of the net found. -/
def arcsOf (t : Lts) (st : DNet) : List Arc := st.edges.map (arcOf t)
theorem lab_get {t : Lts} {st : DNet} (hG : DGood t st) {e : Edge} (he : e ∈ st.edges) : ∃ h : e.lab.toNat < t.labels.length, labAt t e = t.labels[e.lab.toNat] ∧ (e.lab.toNat : Int) = e.lab := by
 have := hG.edges e he
 refine ⟨by omega, ?_, by omega⟩
 unfold labAt
 rw [List.getD_eq_getElem?_getD, List.getElem?_eq_getElem (by omega)]
 rfl
theorem edge_back {t : Lts} (hv : Valid t) {st : DNet} (hG : DGood t st) : (arcsOf t st).map (edgeIn t.labels) = st.edges := by
 unfold arcsOf
 rw [List.map_map]
 conv => rhs; rw [← List.map_id st.edges]
 apply List.map_congr_left
 intro e he
 obtain ⟨h1, h2, h3⟩ := lab_get hG he
 simp only [Function.comp, edgeIn, arcOf, id]
 rw [h2, idxL_at hv.labels h1, h3]
def Up (es : List Edge) : Prop := es.Pairwise fun a b => a.src < b.src ∨ (a.src = b.src ∧ a.lab < b.lab)
theorem up_at (t : Lts) (n : Nat) : Up (dAt t n).edges := (EdgesUp.at t n).1
theorem rise_up {es : List Edge} (h : Up es) : RiseE es := h.imp fun {a b} h => by rw [edgeLess_iff]; omega
theorem rise_in {t : Lts} (hv : Valid t) {st : DNet} (hG : DGood t st) (hu : Up st.edges) {L : List ByteArray} (hL : LabelsOk L) (hm : ∀ e ∈ st.edges, labAt t e ∈ L) : RiseE ((arcsOf t st).map (edgeIn L)) := by
 unfold arcsOf RiseE
 rw [List.map_map, List.pairwise_map]
 refine List.Pairwise.imp_of_mem ?_ hu
 intro a b ha hb h
 rw [edgeLess_iff]
 rcases h with h | ⟨h, h2⟩
 ·exact .inl h
 ·refine .inr ⟨h, .inl ?_⟩
  obtain ⟨a1, a2, a3⟩ := lab_get hG ha
  obtain ⟨b1, b2, b3⟩ := lab_get hG hb
  have hp := labels_pair hv.labels
  rw [List.pairwise_map, List.pairwise_iff_getElem] at hp
  have h3 := hp _ _ a1 b1 (by omega)
  rw [← a2, ← b2, ← Lib.toList_data, ← Lib.toList_data] at h3
  have := idxL_mono hL (hm a ha) (hm b hb) h3
  simp only [Function.comp, edgeIn, arcOf]
  omega

/-- The system by the labels in use. -/
def sysOf (t : Lts) (st : DNet) : Lts := ⟨st.rows.length, 0, labSet (tauT :: (arcsOf t st).map Arc.lab), (arcsOf t st).map (edgeIn (labSet (tauT :: (arcsOf t st).map Arc.lab)))⟩
theorem used_mem {t : Lts} {st : DNet} (hG : DGood t st) : ∀ l ∈ (arcsOf t st).map Arc.lab, l ∈ t.labels := by
 intro l hl
 unfold arcsOf at hl
 rw [List.map_map, List.mem_map] at hl
 obtain ⟨e, he, rfl⟩ := hl
 obtain ⟨h1, h2, -⟩ := lab_get hG he
 simp only [Function.comp, arcOf]
 rw [h2]
 exact List.getElem_mem _
theorem arc_mem {t : Lts} (hv : Valid t) {st : DNet} (hG : DGood t st) : ∀ a ∈ arcsOf t st, a.lab ∈ (sysOf t st).labels := fun a ha => ((used_is hv.labels (used_mem hG)).2 _).2 (List.mem_cons_of_mem _ (List.mem_map.2 ⟨a, ha, rfl⟩))
theorem sys_rise {t : Lts} (hv : Valid t) {st : DNet} (hG : DGood t st) (hu : Up st.edges) : RiseE (sysOf t st).edges :=
 rise_in hv hG hu (used_is hv.labels (used_mem hG)).1 fun e he => arc_mem hv hG _ (List.mem_map.2 ⟨e, he, rfl⟩)
theorem sys_edge {t : Lts} (hv : Valid t) {st : DNet} (hG : DGood t st) : ∀ i (h : i < (sysOf t st).edges.length), EdgeOk (sysOf t st) (sysOf t st).edges[i] := by
 intro i hi
 have hi' : i < st.edges.length := by simpa [sysOf, arcsOf] using hi
 have he := List.getElem_mem hi'
 have h1 := hG.edges _ he
 have h2 := arc_mem hv hG (arcOf t st.edges[i]) (List.mem_map.2 ⟨_, he, rfl⟩)
 obtain ⟨h3, -, -⟩ := idxL_get h2
 have h4 : (sysOf t st).edges[i] = ⟨st.edges[i].src, (idxL (sysOf t st).labels (labAt t st.edges[i]) : Nat), st.edges[i].dst⟩ := by simp [sysOf, arcsOf, edgeIn, arcOf]
 rw [h4]
 refine ⟨h1.1.1, h1.1.2, h1.2.2.1, h1.2.2.2, by show (0 : Int) ≤ ((idxL _ _ : Nat) : Int); omega, ?_⟩
 show ((idxL (sysOf t st).labels (labAt t st.edges[i]) : Nat) : Int) < _
 have h5 : idxL (sysOf t st).labels (labAt t st.edges[i]) < (sysOf t st).labels.length := h3
 omega
theorem sys_valid {t : Lts} (hv : Valid t) {st : DNet} (hG : DGood t st) (hu : Up st.edges) : Valid (sysOf t st) ↔ DSmall st := by
 have hel : (sysOf t st).edges.length = st.edges.length := by simp [sysOf, arcsOf]
 constructor
 ·intro h
  refine ⟨?_, by have := h.most; omega⟩
  have := h.st1
  have h2 : (sysOf t st).states = (st.rows.length : Int) := rfl
  omega
 ·rintro ⟨h1, h2⟩
  have h0 := hG.some
  refine ⟨by show (1 : Int) ≤ (st.rows.length : Int); omega, by show (st.rows.length : Int) ≤ 40; omega, Int.le_refl 0, by show (0 : Int) < (st.rows.length : Int); omega, (used_is hv.labels (used_mem hG)).1, by omega, sys_edge hv hG, fun i hi => ?_⟩
  exact List.pairwise_iff_getElem.1 (sys_rise hv hG hu) i (i + 1) (by omega) hi (by omega)
theorem sys_arcs {t : Lts} (hv : Valid t) {st : DNet} (hG : DGood t st) : (sysOf t st).edges.map (arcOf (sysOf t st)) = arcsOf t st := by
 show ((arcsOf t st).map _).map _ = _
 rw [List.map_map]
 conv => rhs; rw [← List.map_id (arcsOf t st)]
 apply List.map_congr_left
 intro a ha
 obtain ⟨h1, h2, -⟩ := idxL_get (arc_mem hv hG a ha)
 simp only [Function.comp, edgeIn, arcOf, id, labAt]
 rw [Int.toNat_natCast]
 have : (sysOf t st).labels.getD (idxL (sysOf t st).labels a.lab) ByteArray.empty = a.lab := by rw [List.getD_eq_getElem?_getD, List.getElem?_eq_getElem h1, Option.getD_some, h2]
 show Arc.mk a.src ((sysOf t st).labels.getD (idxL (sysOf t st).labels a.lab) ByteArray.empty) a.dst = a
 rw [this]

end Go.Proofs.YthofaoabgbgbdaaGreatDoor

namespace Go.Proofs.YthofaoabgbgbdaaGreatDoor
open Go Go.RowKit

theorem labSet_is (ls : List ByteArray) : ((labSet ls).map (·.data.toList)).Pairwise (fun a b => lessL a b = true) ∧ ∀ x, x ∈ labSet ls ↔ x ∈ ls := by
 have hs : ((ls.map (·.data.toList)).mergeSort fun x y => !lessL y x).Pairwise fun a b => a = b ∨ lessL a b = true := by
  have h1 := List.pairwise_mergeSort (le := fun x y : List UInt8 => !lessL y x) (fun a b c h1 h2 => by
   simp only [Bool.not_eq_true'] at *
   have := (swo_of_total lessL_irrefl lessL_trans lessL_tri).ntrans c b a h2 h1
   exact this) (fun a b => by
   cases h : lessL b a with
   | false => simp
   | true =>
    cases h2 : lessL a b with
    | false => simp
    | true => have := lessL_trans a b a h2 h; rw [lessL_irrefl] at this; cases this) (ls.map (·.data.toList))
  refine h1.imp fun {a b} h => ?_
  simp only [Bool.not_eq_true'] at h
  cases h2 : lessL a b with
  | true => exact .inr rfl
  | false => exact .inl (lessL_tri a b h2 h)
 obtain ⟨h1, h2⟩ := compact_is (fun a b : List UInt8 => lessL a b = true) lessL_trans _ hs
 have hm : (labSet ls).map (·.data.toList) = Lib.compact ((ls.map (·.data.toList)).mergeSort fun x y => !lessL y x) := by
  unfold labSet
  rw [List.map_map]
  conv => rhs; rw [← List.map_id (Lib.compact ((ls.map (·.data.toList)).mergeSort fun x y => !lessL y x))]
  apply List.map_congr_left
  intro x _
  simp [mkB]
 refine ⟨by rw [hm]; exact h1, fun x => ?_⟩
 have h3 : x ∈ labSet ls ↔ x.data.toList ∈ (labSet ls).map (·.data.toList) := by
  rw [List.mem_map]
  exact ⟨fun h => ⟨x, h, rfl⟩, fun ⟨y, hy, e⟩ => (data_inj e) ▸ hy⟩
 rw [h3, hm, h2, List.mem_mergeSort, List.mem_map]
 exact ⟨fun ⟨y, hy, e⟩ => (data_inj e) ▸ hy, fun h => ⟨x, h, rfl⟩⟩

/-- A list of labels in order, tau first. -/
structure InOrd (L : List ByteArray) : Prop where
 first : L[0]? = some tauT
 asc : (L.map (·.data.toList)).Pairwise fun a b => lessL a b = true
theorem InOrd.set (us : List ByteArray) : InOrd (labSet (tauT :: us)) := by
 obtain ⟨h1, h2⟩ := labSet_is (tauT :: us)
 refine ⟨?_, h1⟩
 have hm := (h2 tauT).2 (by simp)
 obtain ⟨i, hi, he⟩ := List.mem_iff_getElem.1 hm
 rcases Nat.eq_zero_or_pos i with h | h
 ·subst h; rw [List.getElem?_eq_getElem hi, he]
 ·have h3 := h1
  rw [List.pairwise_map, List.pairwise_iff_getElem] at h3
  have h4 := h3 0 i (by omega) hi h
  rw [he, lessL_iff] at h4
  rcases h4.2 with h5 | h5
  ·exact absurd (h5.trans (by rw [← Lib.toList_data, tauT_list])) h4.1
  ·exact absurd (by rw [← Lib.toList_data, tauT_list]) h5.1
theorem InOrd.less {L : List ByteArray} (h : InOrd L) {i j : Nat} (hij : i < j) (hj : j < L.length) : lessL (L[i]'(by omega)).data.toList L[j].data.toList = true := by
 have := h.asc
 rw [List.pairwise_map, List.pairwise_iff_getElem] at this
 exact this i j (by omega) hj hij
theorem InOrd.pos {L : List ByteArray} (h : InOrd L) : 0 < L.length := (List.getElem?_eq_some_iff.1 h.first).1
theorem InOrd.notau {L : List ByteArray} (h : InOrd L) {j : Nat} (h1 : 1 ≤ j) (hj : j < L.length) : L[j].data.toList ≠ tauB := by
 have h2 := h.less (show 0 < j by omega) hj
 obtain ⟨h0, e⟩ := List.getElem?_eq_some_iff.1 h.first
 rw [e, lessL_iff] at h2
 intro e2
 exact h2.1 (by rw [e2, ← Lib.toList_data, tauT_list])
/-- A text that is not there is put to its place. -/
theorem InOrd.put {us L : List ByteArray} {x : ByteArray} {k : Nat} (hL : L = labSet (tauT :: us)) (hx : ∀ y ∈ L, y.toList ≠ x.toList) (h1 : 1 ≤ k) (hk : k ≤ L.length) (hlo : ∀ j (h : j < L.length), 1 ≤ j → j < k → strLess L[j] x = true) (hhi : ∀ h : k < L.length, strLess L[k] x = false) :
  L.take k ++ x :: L.drop k = labSet (tauT :: (us ++ [x])) := by
 have hO : InOrd L := by rw [hL]; exact InOrd.set us
 obtain ⟨-, hm⟩ := labSet_is (tauT :: us)
 rw [← hL] at hm
 have hxt : x.data.toList ≠ tauB := by
  intro e
  have h0 := hO.pos
  obtain ⟨h3, e3⟩ := List.getElem?_eq_some_iff.1 hO.first
  refine hx L[0] (List.getElem_mem _) ?_
  rw [e3, tauT_list, Lib.toList_data, e]
 have hlt : ∀ j (h : j < L.length), j < k → lessL L[j].data.toList x.data.toList = true := by
  intro j hj hjk
  rw [lessL_iff]
  have hne : L[j].data.toList ≠ x.data.toList := fun e => hx L[j] (List.getElem_mem _) (by rw [Lib.toList_data, Lib.toList_data, e])
  refine ⟨hne, ?_⟩
  rcases Nat.eq_zero_or_pos j with h | h
  ·subst h
   obtain ⟨h3, e3⟩ := List.getElem?_eq_some_iff.1 hO.first
   exact .inl (by rw [e3, ← Lib.toList_data, tauT_list])
  ·have h2 := hlo j hj h hjk
   unfold strLess at h2
   rw [less_lt, decide_eq_true_eq, Lib.toList_data, Lib.toList_data] at h2
   exact .inr ⟨hxt, h2⟩
 have hgt : ∀ j (h : j < L.length), k ≤ j → lessL x.data.toList L[j].data.toList = true := by
  have hk0 : ∀ h : k < L.length, lessL x.data.toList L[k].data.toList = true := by
   intro h
   have h2 := hhi h
   have hne : x.data.toList ≠ L[k].data.toList := fun e => hx L[k] (List.getElem_mem _) (by rw [Lib.toList_data, Lib.toList_data, e])
   cases h3 : lessL x.data.toList L[k].data.toList with
   | true => rfl
   | false =>
    exfalso
    have h4 : lessL L[k].data.toList x.data.toList = true := by
     cases h5 : lessL L[k].data.toList x.data.toList with
     | true => rfl
     | false => exact absurd (lessL_tri _ _ h3 h5) hne
    rw [lessL_iff] at h4
    rcases h4.2 with h5 | h5
    ·exact hO.notau h1 h h5
    ·unfold strLess at h2
     rw [less_lt, decide_eq_false_iff_not, Lib.toList_data, Lib.toList_data] at h2
     exact h2 h5.2
  intro j hj hkj
  rcases Nat.eq_or_lt_of_le hkj with e | h
  ·subst e; exact hk0 hj
  ·exact lessL_trans _ _ _ (hk0 (by omega)) (hO.less h hj)
 refine (labSet_eq ?_ fun y => ?_).symm
 ·rw [List.map_append, List.map_cons, List.pairwise_append]
  have ha := hO.asc
  refine ⟨?_, ?_, ?_⟩
  ·rw [List.map_take]; exact ha.sublist (List.take_sublist _ _)
  ·rw [List.pairwise_cons]
   refine ⟨fun y hy => ?_, by rw [List.map_drop]; exact ha.sublist (List.drop_sublist _ _)⟩
   obtain ⟨z, hz, rfl⟩ := List.mem_map.1 hy
   obtain ⟨i, hi, rfl⟩ := List.mem_iff_getElem.1 hz
   rw [List.getElem_drop]
   exact hgt _ _ (by omega)
  ·intro y hy z hz
   obtain ⟨y2, hy2, rfl⟩ := List.mem_map.1 hy
   obtain ⟨i, hi, rfl⟩ := List.mem_iff_getElem.1 hy2
   rw [List.length_take] at hi
   rw [List.getElem_take]
   rcases List.mem_cons.1 hz with rfl | hz
   ·exact hlt _ _ (by omega)
   ·obtain ⟨z2, hz2, rfl⟩ := List.mem_map.1 hz
    obtain ⟨j, hj, rfl⟩ := List.mem_iff_getElem.1 hz2
    rw [List.getElem_drop]
    exact hO.less (by omega) _
 ·have h5 : y ∈ L.take k ++ x :: L.drop k ↔ y ∈ L ∨ y = x := by
   rw [List.mem_append, List.mem_cons]
   conv => rhs; rw [← List.take_append_drop k L, List.mem_append]
   constructor
   ·rintro (h | h | h)
    ·exact .inl (.inl h)
    ·exact .inr h
    ·exact .inl (.inr h)
   ·rintro ((h | h) | h)
    ·exact .inl h
    ·exact .inr (.inr h)
    ·exact .inr (.inl h)
  rw [h5, hm]
  simp only [List.mem_cons, List.mem_append, List.not_mem_nil, or_false]
  constructor
  ·rintro (h | h | h)
   ·exact .inl (.inl h)
   ·exact .inl (.inr h)
   ·exact .inr h
  ·rintro ((h | h) | h)
   ·exact .inl h
   ·exact .inr (.inl h)
   ·exact .inr (.inr h)
theorem InOrd.same {us L : List ByteArray} {x : ByteArray} (hL : L = labSet (tauT :: us)) (hx : x ∈ L) : L = labSet (tauT :: (us ++ [x])) := by
 have hO : InOrd L := by rw [hL]; exact InOrd.set us
 obtain ⟨-, hm⟩ := labSet_is (tauT :: us)
 rw [← hL] at hm
 refine (labSet_eq hO.asc fun y => ?_).symm
 rw [hm]
 have := (hm x).1 hx
 simp only [List.mem_cons, List.mem_append, List.not_mem_nil, or_false] at this ⊢
 constructor
 ·rintro (h | h | h)
  ·exact .inl h
  ·exact .inr h
  ·subst h; exact this
 ·rintro (h | h)
  ·exact .inl h
  ·exact .inr (.inl h)
/-- While the tail is moved up: a junk text at the place k. -/
def shiftAt (L : List ByteArray) (j : ByteArray) (k : Nat) : List ByteArray := L.take k ++ j :: L.drop k
theorem shiftAt_end (L : List ByteArray) (j : ByteArray) : L ++ [j] = shiftAt L j L.length := by simp [shiftAt]
theorem shiftAt_get {L : List ByteArray} {j : ByteArray} {k : Nat} (h1 : 1 ≤ k) (hk : k ≤ L.length) : (shiftAt L j k)[k - 1]? = some (L[k - 1]'(by omega)) := by
 unfold shiftAt
 rw [List.getElem?_append_left (by rw [List.length_take]; omega), List.getElem?_take, if_pos (by omega), List.getElem?_eq_getElem (by omega)]
theorem shiftAt_set {L : List ByteArray} {j : ByteArray} {k : Nat} (h1 : 1 ≤ k) (hk : k ≤ L.length) : (shiftAt L j k).set k (L[k - 1]'(by omega)) = shiftAt L (L[k - 1]'(by omega)) (k - 1) := by
 unfold shiftAt
 have hl : (L.take k).length = k := by rw [List.length_take]; omega
 rw [List.set_append_right _ _ (by omega), hl, Nat.sub_self, List.set_cons_zero]
 have h2 : L.take k = L.take (k - 1) ++ [L[k - 1]'(by omega)] := by
  have := List.take_succ_eq_append_getElem (l := L) (i := k - 1) (by omega)
  rw [show k - 1 + 1 = k from by omega] at this
  exact this
 have h3 : L.drop (k - 1) = L[k - 1]'(by omega) :: L.drop k := by
  have := List.drop_eq_getElem_cons (l := L) (i := k - 1) (by omega)
  rw [show k - 1 + 1 = k from by omega] at this
  exact this
 rw [h2, h3, List.append_assoc]
 rfl
theorem shiftAt_put {L : List ByteArray} {j x : ByteArray} {k : Nat} (hk : k ≤ L.length) : (shiftAt L j k).set k x = L.take k ++ x :: L.drop k := by
 unfold shiftAt
 have hl : (L.take k).length = k := by rw [List.length_take]; omega
 rw [List.set_append_right _ _ (by omega), hl, Nat.sub_self, List.set_cons_zero]

theorem info_strJ : (Tryz.prog.info? 9).map (fun i => (i.zero, i.size, i.bytes)) = some (some (.string ⟨#[]⟩), 1, 16) := by kernel_rfl
theorem tau_one : labSet [tauT] = [tauT] := by
 refine labSet_eq (by simp) fun x => Iff.rfl

end Go.Proofs.YthofaoabgbgbdaaGreatDoor

namespace Go.Proofs.YthofaoabgbgbdaaGreatDoor
open Go Go.RowKit

theorem labSet_step (ls : List ByteArray) {i : Nat} (h : i < ls.length) : labSet (tauT :: ls.take (i + 1)) = labSet (tauT :: (ls.take i ++ [ls[i]])) := by rw [List.take_succ_eq_append_getElem h]

set_option maxRecDepth 100000 in
set_option maxHeartbeats 4000000 in
theorem l11Join_any (lo : Nat) (v : Value) (ls : List ByteArray) (w : World) (hv : SliceK 1 encS lo w v ls) (hn : ls.length ≤ 1000) :
  Calls Tryz.prog 74 #[v] w fun e w' => ∃ v', e = .returned v' ∧ Below w.heap.size w w' ∧ w'.ownsRow w.heap.size 9 1 v' (labSet (tauT :: ls)).length ((labSet (tauT :: ls)).map .string) := by
 obtain ⟨a, c, rfl, hc, hc2, hrow⟩ := hv
 have HR := Lib.hid hrow
 obtain ⟨N, hN⟩ : ∃ N, N = ls.length := ⟨_, rfl⟩
 rw [← hN] at hc hn ⊢
 have HN := Lib.hid hN
 obtain ⟨i0, hi, hz0, hz1, hz2⟩ := info_parts info_strJ
 obtain ⟨W, hW⟩ : ∃ W, W = w.alloc (.cells #[.string ⟨#[116, 97, 117]⟩] 9) := ⟨_, rfl⟩
 have HB0 : Hid (Below w.heap.size w W) := by unfold Hid; rw [hW]; exact (Below.refl _ _).alloc (Nat.le_refl _) _
 have HO0 : Hid (W.ownsRow w.heap.size 9 1 (.slice (some ⟨w.heap.size, 0, none⟩) 1 1) 1 ([tauT].map .string)) := by
  unfold Hid
  rw [hW]
  exact World.ownsRow_lit (base := w.heap.size) (e := 9) (size := 1) w #[.string ⟨#[116, 97, 117]⟩] 1 (Nat.le_refl _) (by decide) rfl
 have HW := Lib.hid hW
 clear hrow hN hW
 go_enter Tryz.func74, Tryz.ntmps74
 go_wp2
 rw [← HW.out]
 go_loopw [3, 4] (fun v3 v4 wr => ∃ (i : Nat) (L : List ByteArray), v4 = .int .i64 i ∧ i ≤ N ∧ L = labSet (tauT :: ls.take i) ∧ L.length ≤ i + 1 ∧ Below w.heap.size w wr ∧ wr.ownsRow w.heap.size 9 1 v3 L.length (L.map .string)) (fun _ v4 _ => N - (intOf v4).toNat)
 case atStart => exact ⟨0, [tauT], rfl, Nat.zero_le _, by rw [List.take_zero, tau_one], by simp, HB0.out, HO0.out⟩
 case round =>
  clear HB0 HO0
  obtain ⟨i, L, rfl, hiN, hL, hLl, hbl, ho⟩ := hrel
  obtain ⟨wC, rfl⟩ : ∃ wC : World, wC = wr := ⟨_, rfl⟩
  have HL := Lib.hid hL
  have HBL := Lib.hid hbl
  have HO := Lib.hid ho
  have hsz := hbl.size
  have HINO : Hid (InOrd L) := by unfold Hid; rw [hL]; exact InOrd.set _
  have hLpos := HINO.out.pos
  obtain ⟨oa, oc, rfl, -, -⟩ := owns_slice ho
  obtain ⟨M, hM⟩ : ∃ M, M = L.length := ⟨_, rfl⟩
  rw [← hM] at hLl hLpos ho HO ⊢
  have HM := Lib.hid hM
  by_cases hlt : i < N
  ·have hil : i < ls.length := by rw [← HN.out]; exact hlt
   obtain ⟨b, o, rfl, -, hbw0, c00⟩ := HR.out.one hil
   simp only [encS, List.getElem?_cons_zero] at c00
   obtain ⟨x, hx⟩ : ∃ x, x = ls[i] := ⟨_, rfl⟩
   rw [← hx] at c00
   have hbw : b < wC.heap.size := Nat.lt_of_lt_of_le hbw0 hsz
   have c0 := keeps hbl hbw0 c00
   have HCL : Hid (∀ w', Below w.heap.size w w' → w'.cell? ⟨b, o + i, none⟩ = some (.string x)) := fun w' hb => keeps hb hbw0 c00
   clear c00
   have HST : Hid (labSet (tauT :: ls.take (i + 1)) = labSet (tauT :: (ls.take i ++ [x]))) := by unfold Hid; rw [hx]; exact labSet_step ls hil
   have HFI := Lib.hid (l11Find_any w.heap.size (.slice oa M oc) L x wC (SliceK.of_owns (enc := encS) (e := 9) encS_len HM.out (by rw [flat_encS]; exact ho)))
   obtain ⟨og, hog, hogB, hogw⟩ : ∃ og, oa = some ⟨og, 0, none⟩ ∧ w.heap.size ≤ og ∧ og < wC.heap.size := by
    rcases ho.2 with ⟨h, h0⟩ | ⟨g, cap, cur, h, h1, hg, -⟩
    ·omega
    ·simp only [Value.slice.injEq, true_and] at h
     exact ⟨g, h.1, h1, (Array.getElem?_eq_some_iff.1 hg).1⟩
   subst hog
   have HC0 := Lib.hid c0
   by_cases hneg : textAt L x < 0
   ·have hno : ∀ y ∈ L, y.toList ≠ x.toList := by
     have h1 := textAt_neg.1 hneg
     rw [List.any_eq_false] at h1
     intro y hy e
     exact h1 y hy (by rw [e]; simp)
    have HNO := Lib.hid hno
    obtain ⟨tx, htx⟩ : ∃ tx, tx = textAt L x := ⟨_, rfl⟩
    rw [← htx] at HFI hneg
    clear hL hbl ho hM hx hno htx
    go_wp2_with fail
    refine Calls.mono HFI.out ?_
    rintro e w1 ⟨rfl, hb1⟩
    have HB1 := Lib.hid (HBL.out.trans (hb1.mono hsz))
    have HO1 := Lib.hid (owns_below HO.out hb1)
    have HC1 := Lib.hid (keeps hb1 hbw HC0.out)
    have hbw1 : b < w1.heap.size := Nat.lt_of_lt_of_le hbw hb1.size
    have hogw1 : og < w1.heap.size := Nat.lt_of_lt_of_le hogw hb1.size
    have hs1 : w.heap.size ≤ w1.heap.size := HB1.out.size
    clear hb1 c0 HC0
    go_wp2
    go_loopw [5] (fun v5 wr => ∃ k : Nat, v5 = .int .i64 k ∧ 1 ≤ k ∧ k ≤ M ∧ (∀ j (h : j < L.length), 1 ≤ j → j < k → strLess L[j] x = true) ∧ Below w1.heap.size w1 wr) (fun v5 _ => M - (intOf v5).toNat)
    case atStart => exact ⟨1, rfl, Nat.le_refl _, by omega, (fun j _ h1 h2 => by omega), Below.refl _ _⟩
    case round =>
     obtain ⟨k, rfl, hk1, hkM, hlo, hb2⟩ := hrel
     obtain ⟨w2, rfl⟩ : ∃ w2 : World, w2 = wr := ⟨_, rfl⟩
     have HLO := Lib.hid hlo
     have HB2 := Lib.hid hb2
     have HO2 := Lib.hid (owns_below HO1.out hb2)
     have c2 := keeps hb2 hbw1 HC1.out
     have hbw2 : b < w2.heap.size := Nat.lt_of_lt_of_le hbw1 hb2.size
     have hogw2 : og < w2.heap.size := Nat.lt_of_lt_of_le hogw1 hb2.size
     have hs2 : w.heap.size ≤ w2.heap.size := Nat.le_trans hs1 hb2.size
     have lc2 := later_cell hbw2 c2
     clear hlo hb2
     by_cases hgo : ∃ h : k < L.length, strLess L[k] x = true
     ·obtain ⟨hkL, hs⟩ := hgo
      have hkl : k < M := by rw [HM.out]; exact hkL
      have ck := HO2.out.cellAt k (by omega)
      rw [List.getElem?_map, List.getElem?_eq_getElem hkL, Option.map_some] at ck
      have HLS : Hid (∀ j (h : j < L.length), 1 ≤ j → j < k + 1 → strLess L[j] x = true) := fun j h h1 h2 => by
       by_cases e : j = k
       ·subst e; exact hs
       ·exact HLO.out j h h1 (by omega)
      obtain ⟨y, hy⟩ : ∃ y, y = L[k] := ⟨_, rfl⟩
      rw [← hy] at ck hs
      have lck := later_cell hogw2 ck
      unfold strLess at hs
      clear hy ck c2
      go_wp2
      refine wp_region_later (by kernel_rfl) (by kernel_rfl) ?_
      repeat (go_big_quiet_step ((fail)))
      refine wpQuiet_nil ?_
      intro _ hw9
      obtain ⟨nl, hw8⟩ := hw9
      subst hw8
      have HB3 := Lib.hid (HB2.out.trans (nl.h.mono HB2.out.size))
      clear lc2 lck
      go_wp2
      go_roundw
      case rel => exact ⟨k + 1, by go_num, by omega, by omega, HLS.out, HB3.out⟩
      case measure => simp [intOf]; omega
     ·have HHI : Hid (∀ h : k < L.length, strLess L[k] x = false) := fun h => by
       cases hs : strLess L[k] x with
       | false => rfl
       | true => exact absurd ⟨h, hs⟩ hgo
      have HPUT : Hid (L.take k ++ x :: L.drop k = labSet (tauT :: ls.take (i + 1))) := by unfold Hid; rw [HST.out]; exact InOrd.put HL.out HNO.out hk1 (by rw [← HM.out]; exact hkM) HLO.out HHI.out
      -- the walk from the search's end on, once
      have REST : ∀ (w3 : World), Below w2.heap.size w2 w3 → Below w.heap.size w w3 ∧ w3.ownsRow w.heap.size 9 1 (.slice (some ⟨og, 0, none⟩) M oc) M (L.map .string) ∧ w3.cell? ⟨b, o + i, none⟩ = some (.string x) := fun w3 hb3 => ⟨HB1.out.trans ((HB2.out.trans (hb3.mono HB2.out.size)).mono hs1), owns_below HO2.out hb3, keeps hb3 hbw2 c2⟩
      have HREST := Lib.hid REST
      clear REST hgo
      by_cases hkl : k < M
      ·have hkL : k < L.length := by rw [← HM.out]; exact hkl
       have ck := HO2.out.cellAt k (by omega)
       rw [List.getElem?_map, List.getElem?_eq_getElem hkL, Option.map_some] at ck
       have hs := HHI.out hkL
       obtain ⟨y, hy⟩ : ∃ y, y = L[k] := ⟨_, rfl⟩
       rw [← hy] at ck hs
       have lck := later_cell hogw2 ck
       unfold strLess at hs
       clear hy ck c2
       go_wp2
       refine wp_region_later (by kernel_rfl) (by kernel_rfl) ?_
       repeat (go_big_quiet_step ((fail)))
       refine wpQuiet_nil ?_
       intro _ hw9
       obtain ⟨nl, hw8⟩ := hw9
       subst hw8
       have H3 := HREST.out nl.w nl.h
       obtain ⟨w3, hw3⟩ : ∃ w3, w3 = nl.w := ⟨_, rfl⟩
       rw [← hw3] at H3 ⊢
       clear hw3 lck lc2 hs
       obtain ⟨HB3, HO3, c3⟩ := H3
       replace HB3 := Lib.hid HB3
       replace HO3 := Lib.hid HO3
       replace c3 := Lib.hid c3
       have hs3 := HB3.out.size
       have hbw3 : b < w3.heap.size := World.block_lt_of_cell? _ _ c3.out
       go_wp2_with (at_builtin; refine wpList_append_own _ rfl _ _ 24 rfl w.heap.size 9 i0 (.string ⟨#[]⟩) 1 16 Tryz.underlying24 hi hz0 hz1 hz2 rfl (by decide) _ M _ rfl (HO3.out.alloc _) ⟨w3.heap.size, 0, none⟩ 1 1 [.string ⟨#[]⟩] rfl rfl ?d1 ?d2 ?d3 ?d4 ?d5 ?_)
       case d1 => exact World.news_of_block (cs := #[.string ⟨#[]⟩]) (t := 9) (fr := (0, 0)) (heap_alloc_new _ _)
       case d2 => intro u hu; simp at hu; subst hu; rfl
       case d3 => simp [maxLen]; omega
       case d4 => omega
       case d5 => simp; omega
       intro v4 w4 ho4 hg4 _
       have HB4 : Hid (Below w.heap.size w w4) := (HB3.out.alloc hs3 _).grown hg4 (by simp; omega) (fun b e => (HO3.out.lt b e).1)
       have HO4 : Hid (w4.ownsRow w.heap.size 9 1 v4 (M + 1) ((shiftAt L ⟨#[]⟩ M).map .string)) := by
        unfold Hid
        rw [HM.out, ← shiftAt_end, List.map_append, ← HM.out]
        exact ho4
       obtain ⟨g4, cap4, rfl⟩ : ∃ g4 cap4, v4 = .slice (some ⟨g4, 0, none⟩) (M + 1) cap4 := by
        rcases HO4.out.2 with ⟨h, h0⟩ | ⟨g, cap, cur, h, -⟩
        ·omega
        ·exact ⟨g, cap, h⟩
       clear ho4 hg4 HB3 HO3 c3 hs3 hbw3
       go_wp2
       go_loopw [6] (fun v6 wr => ∃ (m : Nat) (junk : ByteArray), v6 = .int .i64 m ∧ k ≤ m ∧ m ≤ M ∧ Below w.heap.size w wr ∧ wr.ownsRow w.heap.size 9 1 (.slice (some ⟨g4, 0, none⟩) (M + 1) cap4) (M + 1) ((shiftAt L junk m).map .string)) (fun v6 _ => (intOf v6).toNat)
       case atStart => exact ⟨M, ⟨#[]⟩, by go_num, hkM, Nat.le_refl _, HB4.out, HO4.out⟩
       case round =>
        clear HB4 HO4
        obtain ⟨m, junk, rfl, hkm, hmM, hb5, ho5⟩ := hrel
        obtain ⟨w5, rfl⟩ : ∃ w5 : World, w5 = wr := ⟨_, rfl⟩
        have HB5 := Lib.hid hb5
        have HO5 := Lib.hid ho5
        have hs5 := hb5.size
        have hbw5 : b < w5.heap.size := Nat.lt_of_lt_of_le hbw0 hs5
        have hgB : w.heap.size ≤ g4 := (ho5.lt g4 rfl).1
        by_cases hmk : k < m
        ·have hm1 : 1 ≤ m := by omega
         have hmL : m ≤ L.length := by rw [← HM.out]; exact hmM
         have cg := ho5.cellAt (m - 1) (by omega)
         rw [List.getElem?_map, shiftAt_get hm1 hmL, Option.map_some] at cg
         obtain ⟨xc, ct⟩ := own_cell ho5 m (by omega)
         have f5 := ho5.frozenAt m
         have hst := ho5.stored m (.string (L[m - 1]'(by omega)))
         rw [← List.map_set, shiftAt_set hm1 hmL] at hst
         have HST := Lib.hid hst.1
         obtain ⟨y, hy⟩ : ∃ y, y = L[m - 1]'(by omega) := ⟨_, rfl⟩
         rw [← hy] at cg HST
         obtain ⟨p, rfl⟩ : ∃ p, m = p + 1 := ⟨m - 1, by omega⟩
         rw [Nat.add_sub_cancel] at cg HST
         have hpi : ((p + 1 : Nat) : Int) = (p : Int) + 1 := by omega
         rw [hpi]
         clear hst hb5 ho5 hy hpi
         go_wp2
         go_roundw
         case rel => exact ⟨p, y, by go_num, by omega, by omega, HB5.out.setCell hgB _, HST.out⟩
         case measure => (first | (simp [intOf]; done) | (simp [intOf]; omega))
        ·have hmk2 : m = k := by omega
         subst hmk2
         have ci := HCL.out w5 hb5
         obtain ⟨xc, ct⟩ := own_cell ho5 m (by omega)
         have f5 := ho5.frozenAt m
         have hst := (ho5.stored m (.string x)).1
         rw [← List.map_set, shiftAt_put (by rw [← HM.out]; exact hmM), HPUT.out] at hst
         have hle : (labSet (tauT :: ls.take (i + 1))).length = M + 1 := by
          have := hst.1
          rw [List.length_map] at this
          omega
         have HST := Lib.hid hst
         have HLE := Lib.hid hle
         clear hst hb5 ho5 hle
         go_wp2
         go_roundw
         case rel => exact ⟨i + 1, labSet (tauT :: ls.take (i + 1)), by go_num, by omega, rfl, by rw [HLE.out]; omega, HB5.out.setCell hgB _, by rw [HLE.out]; exact HST.out⟩
         case measure => simp [intOf]; omega
      ·have HKM : Hid (k = M) := by unfold Hid; omega
       clear c2
       go_wp2
       refine wp_region_later (by kernel_rfl) (by kernel_rfl) ?_
       repeat (go_big_quiet_step ((fail)))
       refine wpQuiet_nil ?_
       intro _ hw9
       obtain ⟨nl, hw8⟩ := hw9
       subst hw8
       have H3 := HREST.out nl.w nl.h
       obtain ⟨w3, hw3⟩ : ∃ w3, w3 = nl.w := ⟨_, rfl⟩
       rw [← hw3] at H3 ⊢
       clear hw3 lc2
       obtain ⟨HB3, HO3, c3⟩ := H3
       replace HB3 := Lib.hid HB3
       replace HO3 := Lib.hid HO3
       replace c3 := Lib.hid c3
       have hs3 := HB3.out.size
       have hbw3 : b < w3.heap.size := World.block_lt_of_cell? _ _ c3.out
       go_wp2_with (at_builtin; refine wpList_append_own _ rfl _ _ 24 rfl w.heap.size 9 i0 (.string ⟨#[]⟩) 1 16 Tryz.underlying24 hi hz0 hz1 hz2 rfl (by decide) _ M _ rfl (HO3.out.alloc _) ⟨w3.heap.size, 0, none⟩ 1 1 [.string ⟨#[]⟩] rfl rfl ?d1 ?d2 ?d3 ?d4 ?d5 ?_)
       case d1 => exact World.news_of_block (cs := #[.string ⟨#[]⟩]) (t := 9) (fr := (0, 0)) (heap_alloc_new _ _)
       case d2 => intro u hu; simp at hu; subst hu; rfl
       case d3 => simp [maxLen]; omega
       case d4 => omega
       case d5 => simp; omega
       intro v4 w4 ho4 hg4 _
       have HB4 : Hid (Below w.heap.size w w4) := (HB3.out.alloc hs3 _).grown hg4 (by simp; omega) (fun b e => (HO3.out.lt b e).1)
       have HO4 : Hid (w4.ownsRow w.heap.size 9 1 v4 (M + 1) ((shiftAt L ⟨#[]⟩ M).map .string)) := by
        unfold Hid
        rw [HM.out, ← shiftAt_end, List.map_append, ← HM.out]
        exact ho4
       obtain ⟨g4, cap4, rfl⟩ : ∃ g4 cap4, v4 = .slice (some ⟨g4, 0, none⟩) (M + 1) cap4 := by
        rcases HO4.out.2 with ⟨h, h0⟩ | ⟨g, cap, cur, h, -⟩
        ·omega
        ·exact ⟨g, cap, h⟩
       clear ho4 hg4 HB3 HO3 c3 hs3 hbw3
       go_wp2
       go_loopw [6] (fun v6 wr => ∃ (m : Nat) (junk : ByteArray), v6 = .int .i64 m ∧ k ≤ m ∧ m ≤ M ∧ Below w.heap.size w wr ∧ wr.ownsRow w.heap.size 9 1 (.slice (some ⟨g4, 0, none⟩) (M + 1) cap4) (M + 1) ((shiftAt L junk m).map .string)) (fun v6 _ => (intOf v6).toNat)
       case atStart => exact ⟨M, ⟨#[]⟩, by go_num, hkM, Nat.le_refl _, HB4.out, HO4.out⟩
       case round =>
        clear HB4 HO4
        obtain ⟨m, junk, rfl, hkm, hmM, hb5, ho5⟩ := hrel
        obtain ⟨w5, rfl⟩ : ∃ w5 : World, w5 = wr := ⟨_, rfl⟩
        have HB5 := Lib.hid hb5
        have HO5 := Lib.hid ho5
        have hs5 := hb5.size
        have hbw5 : b < w5.heap.size := Nat.lt_of_lt_of_le hbw0 hs5
        have hgB : w.heap.size ≤ g4 := (ho5.lt g4 rfl).1
        by_cases hmk : k < m
        ·exfalso; have := HKM.out; omega
        ·have hmk2 : m = k := by omega
         subst hmk2
         have ci := HCL.out w5 hb5
         obtain ⟨xc, ct⟩ := own_cell ho5 m (by omega)
         have f5 := ho5.frozenAt m
         have hst := (ho5.stored m (.string x)).1
         rw [← List.map_set, shiftAt_put (by rw [← HM.out]; exact hmM), HPUT.out] at hst
         have hle : (labSet (tauT :: ls.take (i + 1))).length = M + 1 := by
          have := hst.1
          rw [List.length_map] at this
          omega
         have HST := Lib.hid hst
         have HLE := Lib.hid hle
         clear hst hb5 ho5 hle
         go_wp2
         go_roundw
         case rel => exact ⟨i + 1, labSet (tauT :: ls.take (i + 1)), by go_num, by omega, rfl, by rw [HLE.out]; omega, HB5.out.setCell hgB _, by rw [HLE.out]; exact HST.out⟩
         case measure => simp [intOf]; omega
   ·obtain ⟨n, hn1, hn2, hn3⟩ := textAt_some hneg
    have hxL : x ∈ L := by
     have := toList_inj hn3
     rw [← this]
     exact List.getElem_mem _
    have HSA : Hid (L = labSet (tauT :: ls.take (i + 1))) := by unfold Hid; rw [HST.out]; exact InOrd.same HL.out hxL
    obtain ⟨tx, htx⟩ : ∃ tx, tx = textAt L x := ⟨_, rfl⟩
    rw [← htx] at HFI hneg
    clear hL hbl ho hM hx htx hn1 hn2 hn3 hxL
    go_wp2_with fail
    refine Calls.mono HFI.out ?_
    rintro e w1 ⟨rfl, hb1⟩
    have HB1 := Lib.hid (HBL.out.trans (hb1.mono hsz))
    have HO1 := Lib.hid (owns_below HO.out hb1)
    clear hb1 c0 HC0
    go_wp2
    go_roundw
    case rel => exact ⟨i + 1, L, by go_num, by omega, HSA.out, by rw [← HM.out]; omega, HB1.out, by rw [← HM.out]; exact HO1.out⟩
    case measure => simp [intOf]; omega
  ·have hiN2 : i = N := by omega
   have HFI : Hid (L = labSet (tauT :: ls)) := by
    have h := HL.out
    rw [hiN2, HN.out, List.take_length] at h
    exact h
   clear hL hbl ho hM
   go_wp2
   go_ret
   exact ⟨_, rfl, HBL.out, by rw [← HFI.out, ← HM.out]; exact HO.out⟩

end Go.Proofs.YthofaoabgbgbdaaGreatDoor
