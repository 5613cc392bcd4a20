/-
  Steps of the search as the loops make them: the place of a set among the rows, when the net is too large, when it is whole.
  Plain laws for lts within determinize: the labels in use, the edges by them, that they lead back.
  The deterministic system of a valid one is valid and deterministic. Plain.
  The first word that leads where something holds, and two ways to search it: states looked at when they are taken from a queue, or when they are met. Plain; no program in sight.
  Two deterministic systems that take the same labels: the first trace on which they differ. Plain definitions; no program in sight.
  The rows and the edges of the deterministic system found: each edge leads from a row to the set behind it. Plain.
  A search that meets states and looks at them later, in the order met. Plain; no program in sight.
-/
import Derived.Test.YtpoleaekcjjedaaGreatDoorF3
import Derived.Test.YtpoleaekcjjedaaGreatDoorF9
import Derived.Test.YtpoleaekcjjedaaGreatDoorF2
import Derived.Test.YtpoleaekcjjedaaGreatDoorF1
namespace Go.Proofs.YtpoleaekcjjedaaGreatDoor
open Go Go.RowKit

/-- The place found among the first m rows, or -1. -/
def seenAt (rows : List (List Int)) (r : List Int) (m : Nat) : Int := if dplace rows r < m then (dplace rows r : Int) else -1
theorem seenAt_zero (rows : List (List Int)) (r : List Int) : seenAt rows r 0 = -1 := by unfold seenAt; rw [if_neg (by omega)]
theorem seenAt_hit {rows : List (List Int)} {r : List Int} {m : Nat} (hn : rows.Nodup) (hm : m < rows.length) (h : (rows[m] == r) = true) : seenAt rows r (m + 1) = m := by
 have := dplace_eq hn hm (eq_of_beq h)
 unfold seenAt
 rw [this, if_pos (by omega)]
theorem seenAt_miss {rows : List (List Int)} {r : List Int} {m : Nat} (hm : m < rows.length) (h : (rows[m] == r) = false) : seenAt rows r (m + 1) = seenAt rows r m := by
 have hne : dplace rows r ≠ m := by
  intro e
  have h2 := dplace_get (rows := rows) (q := r) (by omega)
  have h3 : rows[m] = r := by
   rw [← h2]
   congr 1
   exact e.symm
  rw [h3] at h
  simp at h
 unfold seenAt
 by_cases h1 : dplace rows r < m
 ·rw [if_pos h1, if_pos (by omega)]
 ·rw [if_neg h1, if_neg (by omega)]

theorem dstep_none {t : Lts} {i : Nat} {cur : List Int} {st : DNet} {k : Nat} (h : nextS t cur (k + 1) = []) : dstep t i cur st k = st := by unfold dstep; rw [if_pos h]
theorem dstep_old {t : Lts} {i : Nat} {cur : List Int} {st : DNet} {k : Nat} (h : nextS t cur (k + 1) ≠ []) (hp : dplace st.rows (nextS t cur (k + 1)) < st.rows.length) :
  dstep t i cur st k = ⟨st.rows, st.edges ++ [⟨(i : Int), (k : Int) + 1, (dplace st.rows (nextS t cur (k + 1)) : Int)⟩]⟩ := by
 unfold dstep dadd
 rw [if_neg h, if_pos hp]
theorem dstep_new {t : Lts} {i : Nat} {cur : List Int} {st : DNet} {k : Nat} (h : nextS t cur (k + 1) ≠ []) (hp : ¬ dplace st.rows (nextS t cur (k + 1)) < st.rows.length) :
  dstep t i cur st k = ⟨st.rows ++ [nextS t cur (k + 1)], st.edges ++ [⟨(i : Int), (k : Int) + 1, (st.rows.length : Int)⟩]⟩ := by
 have h2 := dplace_le st.rows (nextS t cur (k + 1))
 have h3 : dplace st.rows (nextS t cur (k + 1)) = st.rows.length := by omega
 unfold dstep dadd
 rw [if_neg h, if_neg hp, h3]

/-- A row too many. -/
theorem DFull.row {t : Lts} {n j : Nat} {cur : List Int} (hc : DCome t n) (hcur : (dAt t n).rows[n]? = some cur) (hj : j < t.labels.length - 1) (h : nextS t cur (j + 1) ≠ [])
  (hp : ¬ dplace (dmid t n cur (dAt t n) j).rows (nextS t cur (j + 1)) < (dmid t n cur (dAt t n) j).rows.length) (h40 : (dmid t n cur (dAt t n) j).rows.length = 40) : DFull t := by
 refine ⟨n, j + 1, cur, hc, hcur, hj, fun hs => ?_⟩
 rw [dmid_succ, dstep_new h hp] at hs
 have := hs.1
 simp only [List.length_append, List.length_singleton] at this
 omega
/-- An edge too many. -/
theorem DFull.edge {t : Lts} {n j : Nat} {cur : List Int} (hc : DCome t n) (hcur : (dAt t n).rows[n]? = some cur) (hj : j < t.labels.length - 1) (h : nextS t cur (j + 1) ≠ [])
  (h300 : (dmid t n cur (dAt t n) j).edges.length = 300) : DFull t := by
 refine ⟨n, j + 1, cur, hc, hcur, hj, fun hs => ?_⟩
 rw [dmid_succ] at hs
 unfold dstep at hs
 rw [if_neg h] at hs
 have := hs.2
 simp only [List.length_append, List.length_singleton] at this
 omega
theorem dAt_succ {t : Lts} {n : Nat} {cur : List Int} (hcur : (dAt t n).rows[n]? = some cur) : dAt t (n + 1) = dmid t n cur (dAt t n) (t.labels.length - 1) := by
 rw [dAt]
 unfold drow
 rw [hcur]
theorem DOk.done {t : Lts} {n : Nat} (hc : DCome t n) (hs : DSmall (dAt t n)) (hn : ¬ n < (dAt t n).rows.length) : DOk t (dAt t n) := by
 refine ⟨⟨n, hc, rfl, ?_⟩, hs⟩
 have h1 : n ≤ (dAt t n).rows.length := by
  cases n with
  | zero => omega
  | succ m =>
   have h2 := hc m (by omega)
   obtain ⟨⟨r, hr⟩, -⟩ := dAt_le t m 1
   rw [hr, List.length_append]
   omega
 omega

end Go.Proofs.YtpoleaekcjjedaaGreatDoor

namespace Go.Proofs.YtpoleaekcjjedaaGreatDoor
open Go Go.RowKit

theorem tauT_list : tauT.toList = tauB := by rw [Lib.toList_data]; rfl
theorem labels_pair {ls : List ByteArray} (h : LabelsOk ls) : (ls.map (·.data.toList)).Pairwise fun a b => lessL a b = true := by
 rw [List.pairwise_map, List.pairwise_iff_getElem]
 intro i j hi hj hij
 rw [← Lib.toList_data, ← Lib.toList_data, lessL_iff]
 have hne : ls[i].toList ≠ ls[j].toList := fun e => by have := labels_inj h i j hi hj e; omega
 refine ⟨hne, ?_⟩
 by_cases h0 : i = 0
 ·subst h0; exact .inl (h.first hi)
 ·refine .inr ⟨h.other j hj (by omega), ?_⟩
  have := labels_less h i j (by omega) hij hj
  unfold strLess at this
  rw [less_lt, decide_eq_true_eq] at this
  exact this
/-- Labels in strict order, tau among them. -/
theorem labelsOk_of {L : List ByteArray} (hp : (L.map (·.data.toList)).Pairwise fun a b => lessL a b = true) (ht : tauT ∈ L) (hn : L.length ≤ 12) (hok : ∀ l ∈ L, l ≠ tauT → labelOk l.data.toList = true) : LabelsOk L := by
 rw [List.pairwise_map, List.pairwise_iff_getElem] at hp
 obtain ⟨k, hk, hkt⟩ := List.mem_iff_getElem.1 ht
 have h0 : k = 0 := by
  rcases Nat.eq_zero_or_pos k with h | h
  ·exact h
  ·have := hp 0 k (by omega) hk h
   rw [hkt, ← Lib.toList_data, ← Lib.toList_data, tauT_list, lessL_iff] at this
   rcases this.2 with h1 | h1
   ·exact absurd h1 this.1
   ·exact absurd rfl h1.1
 subst h0
 have hoth : ∀ i (h : i < L.length), 1 ≤ i → L[i].toList ≠ tauB := fun i hi h1 e => by
  have := hp 0 i hk hi (by omega)
  rw [hkt, ← Lib.toList_data, ← Lib.toList_data, tauT_list, e, lessL_irrefl] at this
  cases this
 refine ⟨by omega, hn, fun h => by rw [hkt, tauT_list], fun i hi h1 => hok _ (List.getElem_mem hi) (fun e => hoth i hi h1 (by rw [e, tauT_list])), hoth, fun i hi h1 => ?_⟩
 have := hp i (i + 1) (by omega) hi (by omega)
 rw [← Lib.toList_data, ← Lib.toList_data, lessL_iff] at this
 unfold strLess
 rw [less_lt, decide_eq_true_eq]
 rcases this.2 with h2 | h2
 ·exact absurd h2 (hoth i (by omega) h1)
 ·exact h2.2

/-- The labels in use. -/
theorem used_is {ls us : List ByteArray} (h : LabelsOk ls) (hu : ∀ l ∈ us, l ∈ ls) : LabelsOk (labSet (tauT :: us)) ∧ (∀ l, l ∈ labSet (tauT :: us) ↔ l ∈ tauT :: us) := by
 have h0 : tauT ∈ ls := by
  have : ls[0]'h.pos = tauT := toList_inj (by rw [h.first h.pos, tauT_list])
  rw [← this]
  exact List.getElem_mem _
 have he : labSet (tauT :: us) = ls.filter fun l => @decide (l ∈ tauT :: us) (Classical.propDecidable _) := by
  refine labSet_eq ?_ fun x => ?_
  ·rw [List.pairwise_map]
   exact List.Pairwise.filter _ (List.pairwise_map.1 (labels_pair h))
  ·rw [List.mem_filter, @decide_eq_true_eq _ (Classical.propDecidable _)]
   refine ⟨fun hx => ⟨?_, hx⟩, fun hx => hx.2⟩
   rcases List.mem_cons.1 hx with rfl | hx
   ·exact h0
   ·exact hu x hx
 have hm : ∀ l, l ∈ labSet (tauT :: us) ↔ l ∈ tauT :: us := fun l => by
  rw [he, List.mem_filter, @decide_eq_true_eq _ (Classical.propDecidable _)]
  refine ⟨fun hx => hx.2, fun hx => ⟨?_, hx⟩⟩
  rcases List.mem_cons.1 hx with rfl | hx
  ·exact h0
  ·exact hu l hx
 refine ⟨labelsOk_of ?_ ((hm _).2 (by simp)) ?_ fun l hl hne => ?_, hm⟩
 ·rw [he, List.pairwise_map]
  exact List.Pairwise.filter _ (List.pairwise_map.1 (labels_pair h))
 ·rw [he]
  exact Nat.le_trans (List.length_filter_le _ _) h.most
 ·have : l ∈ ls := by
   rcases List.mem_cons.1 ((hm l).1 hl) with rfl | hx
   ·exact absurd rfl hne
   ·exact hu l hx
  obtain ⟨i, hi, rfl⟩ := List.mem_iff_getElem.1 this
  rcases Nat.eq_zero_or_pos i with h1 | h1
  ·subst h1
   exact absurd (toList_inj (by rw [h.first hi, tauT_list])) hne
  ·exact h.label i hi h1
theorem all_used {ls : List ByteArray} (h : LabelsOk ls) : labSet (tauT :: ls) = ls := by
 refine labSet_eq (labels_pair h) fun x => ?_
 have h0 : tauT ∈ ls := by
  have : ls[0]'h.pos = tauT := toList_inj (by rw [h.first h.pos, tauT_list])
  rw [← this]
  exact List.getElem_mem _
 rw [List.mem_cons]
 exact ⟨fun hx => hx.elim (fun e => e ▸ h0) id, .inr⟩

/-- In a list of labels in order, places go with the order. -/
theorem idxL_mono {L : List ByteArray} (h : LabelsOk L) {a b : ByteArray} (ha : a ∈ L) (hb : b ∈ L) (hl : lessL a.toList b.toList = true) : idxL L a < idxL L b := by
 obtain ⟨h1, h2, -⟩ := idxL_get ha
 obtain ⟨h3, h4, -⟩ := idxL_get hb
 have hp := labels_pair h
 rw [List.pairwise_map, List.pairwise_iff_getElem] at hp
 rcases Nat.lt_trichotomy (idxL L a) (idxL L b) with h5 | h5 | h5
 ·exact h5
 ·exfalso
  have : a = b := by rw [← h2, ← h4]; congr 1
  rw [this, lessL_irrefl] at hl
  cases hl
 ·exfalso
  have := hp _ _ h3 h1 h5
  rw [h2, h4, ← Lib.toList_data, ← Lib.toList_data] at this
  have h6 := lessL_trans _ _ _ hl this
  rw [lessL_irrefl] at h6
  cases h6
theorem idxL_at {L : List ByteArray} (h : LabelsOk L) {k : Nat} (hk : k < L.length) : idxL L L[k] = k := by
 obtain ⟨h1, h2, -⟩ := idxL_get (List.getElem_mem hk)
 exact labels_inj h _ _ h1 hk (by rw [h2])

/-- The arcs of the net found. -/
def arcsOf (t : Lts) (st : DNet) : List Arc := st.edges.map (arcOf t)
theorem lab_get {t : Lts} {st : DNet} (hG : DGood t st) {e : Edge} (he : e ∈ st.edges) : ∃ h : e.lab.toNat < t.labels.length, labAt t e = t.labels[e.lab.toNat] ∧ (e.lab.toNat : Int) = e.lab := by
 have := hG.edges e he
 refine ⟨by omega, ?_, by omega⟩
 unfold labAt
 rw [List.getD_eq_getElem?_getD, List.getElem?_eq_getElem (by omega)]
 rfl
theorem edge_back {t : Lts} (hv : Valid t) {st : DNet} (hG : DGood t st) : (arcsOf t st).map (edgeIn t.labels) = st.edges := by
 unfold arcsOf
 rw [List.map_map]
 conv => rhs; rw [← List.map_id st.edges]
 apply List.map_congr_left
 intro e he
 obtain ⟨h1, h2, h3⟩ := lab_get hG he
 simp only [Function.comp, edgeIn, arcOf, id]
 rw [h2, idxL_at hv.labels h1, h3]
def Up (es : List Edge) : Prop := es.Pairwise fun a b => a.src < b.src ∨ (a.src = b.src ∧ a.lab < b.lab)
theorem up_at (t : Lts) (n : Nat) : Up (dAt t n).edges := (EdgesUp.at t n).1
theorem rise_up {es : List Edge} (h : Up es) : RiseE es := h.imp fun {a b} h => by rw [edgeLess_iff]; omega
theorem rise_in {t : Lts} (hv : Valid t) {st : DNet} (hG : DGood t st) (hu : Up st.edges) {L : List ByteArray} (hL : LabelsOk L) (hm : ∀ e ∈ st.edges, labAt t e ∈ L) : RiseE ((arcsOf t st).map (edgeIn L)) := by
 unfold arcsOf RiseE
 rw [List.map_map, List.pairwise_map]
 refine List.Pairwise.imp_of_mem ?_ hu
 intro a b ha hb h
 rw [edgeLess_iff]
 rcases h with h | ⟨h, h2⟩
 ·exact .inl h
 ·refine .inr ⟨h, .inl ?_⟩
  obtain ⟨a1, a2, a3⟩ := lab_get hG ha
  obtain ⟨b1, b2, b3⟩ := lab_get hG hb
  have hp := labels_pair hv.labels
  rw [List.pairwise_map, List.pairwise_iff_getElem] at hp
  have h3 := hp _ _ a1 b1 (by omega)
  rw [← a2, ← b2, ← Lib.toList_data, ← Lib.toList_data] at h3
  have := idxL_mono hL (hm a ha) (hm b hb) h3
  simp only [Function.comp, edgeIn, arcOf]
  omega

/-- The system by the labels in use. -/
def sysOf (t : Lts) (st : DNet) : Lts := ⟨st.rows.length, 0, labSet (tauT :: (arcsOf t st).map Arc.lab), (arcsOf t st).map (edgeIn (labSet (tauT :: (arcsOf t st).map Arc.lab)))⟩
theorem used_mem {t : Lts} {st : DNet} (hG : DGood t st) : ∀ l ∈ (arcsOf t st).map Arc.lab, l ∈ t.labels := by
 intro l hl
 unfold arcsOf at hl
 rw [List.map_map, List.mem_map] at hl
 obtain ⟨e, he, rfl⟩ := hl
 obtain ⟨h1, h2, -⟩ := lab_get hG he
 simp only [Function.comp, arcOf]
 rw [h2]
 exact List.getElem_mem _
theorem arc_mem {t : Lts} (hv : Valid t) {st : DNet} (hG : DGood t st) : ∀ a ∈ arcsOf t st, a.lab ∈ (sysOf t st).labels := fun a ha => ((used_is hv.labels (used_mem hG)).2 _).2 (List.mem_cons_of_mem _ (List.mem_map.2 ⟨a, ha, rfl⟩))
theorem sys_rise {t : Lts} (hv : Valid t) {st : DNet} (hG : DGood t st) (hu : Up st.edges) : RiseE (sysOf t st).edges :=
 rise_in hv hG hu (used_is hv.labels (used_mem hG)).1 fun e he => arc_mem hv hG _ (List.mem_map.2 ⟨e, he, rfl⟩)
theorem sys_edge {t : Lts} (hv : Valid t) {st : DNet} (hG : DGood t st) : ∀ i (h : i < (sysOf t st).edges.length), EdgeOk (sysOf t st) (sysOf t st).edges[i] := by
 intro i hi
 have hi' : i < st.edges.length := by simpa [sysOf, arcsOf] using hi
 have he := List.getElem_mem hi'
 have h1 := hG.edges _ he
 have h2 := arc_mem hv hG (arcOf t st.edges[i]) (List.mem_map.2 ⟨_, he, rfl⟩)
 obtain ⟨h3, -, -⟩ := idxL_get h2
 have h4 : (sysOf t st).edges[i] = ⟨st.edges[i].src, (idxL (sysOf t st).labels (labAt t st.edges[i]) : Nat), st.edges[i].dst⟩ := by simp [sysOf, arcsOf, edgeIn, arcOf]
 rw [h4]
 refine ⟨h1.1.1, h1.1.2, h1.2.2.1, h1.2.2.2, by show (0 : Int) ≤ ((idxL _ _ : Nat) : Int); omega, ?_⟩
 show ((idxL (sysOf t st).labels (labAt t st.edges[i]) : Nat) : Int) < _
 have h5 : idxL (sysOf t st).labels (labAt t st.edges[i]) < (sysOf t st).labels.length := h3
 omega
theorem sys_valid {t : Lts} (hv : Valid t) {st : DNet} (hG : DGood t st) (hu : Up st.edges) : Valid (sysOf t st) ↔ DSmall st := by
 have hel : (sysOf t st).edges.length = st.edges.length := by simp [sysOf, arcsOf]
 constructor
 ·intro h
  refine ⟨?_, by have := h.most; omega⟩
  have := h.st1
  have h2 : (sysOf t st).states = (st.rows.length : Int) := rfl
  omega
 ·rintro ⟨h1, h2⟩
  have h0 := hG.some
  refine ⟨by show (1 : Int) ≤ (st.rows.length : Int); omega, by show (st.rows.length : Int) ≤ 40; omega, Int.le_refl 0, by show (0 : Int) < (st.rows.length : Int); omega, (used_is hv.labels (used_mem hG)).1, by omega, sys_edge hv hG, fun i hi => ?_⟩
  exact List.pairwise_iff_getElem.1 (sys_rise hv hG hu) i (i + 1) (by omega) hi (by omega)
theorem sys_arcs {t : Lts} (hv : Valid t) {st : DNet} (hG : DGood t st) : (sysOf t st).edges.map (arcOf (sysOf t st)) = arcsOf t st := by
 show ((arcsOf t st).map _).map _ = _
 rw [List.map_map]
 conv => rhs; rw [← List.map_id (arcsOf t st)]
 apply List.map_congr_left
 intro a ha
 obtain ⟨h1, h2, -⟩ := idxL_get (arc_mem hv hG a ha)
 simp only [Function.comp, edgeIn, arcOf, id, labAt]
 rw [Int.toNat_natCast]
 have : (sysOf t st).labels.getD (idxL (sysOf t st).labels a.lab) ByteArray.empty = a.lab := by rw [List.getD_eq_getElem?_getD, List.getElem?_eq_getElem h1, Option.getD_some, h2]
 show Arc.mk a.src ((sysOf t st).labels.getD (idxL (sysOf t st).labels a.lab) ByteArray.empty) a.dst = a
 rw [this]

end Go.Proofs.YtpoleaekcjjedaaGreatDoor

namespace Go.Proofs.YtpoleaekcjjedaaGreatDoor
open Go Go.RowKit

theorem dok_good {t : Lts} {st : DNet} (hv : Valid t) (h : DOk t st) : DGood t st := by
 obtain ⟨⟨n, -, rfl, -⟩, -⟩ := h
 exact DGood.at hv n
theorem dok_up {t : Lts} {st : DNet} (h : DOk t st) : Up st.edges := by
 obtain ⟨⟨n, -, rfl, -⟩, -⟩ := h
 exact up_at t n
theorem dSys_edge {t : Lts} {st : DNet} (hG : DGood t st) : ∀ i (h : i < (dSys t st).edges.length), EdgeOk (dSys t st) (dSys t st).edges[i] := by
 intro i hi
 have := hG.edges _ (List.getElem_mem hi)
 exact ⟨this.1.1, this.1.2, this.2.2.1, this.2.2.2, Int.le_trans (by decide) this.2.1.1, this.2.1.2⟩
theorem dSys_valid {t : Lts} {st : DNet} (hv : Valid t) (h : DOk t st) : Valid (dSys t st) := by
 have hG := dok_good hv h
 have hu := dok_up h
 have h0 := hG.some
 have hs := h.2
 refine ⟨by show (1 : Int) ≤ (st.rows.length : Int); omega, by show (st.rows.length : Int) ≤ 40; have := hs.1; omega, Int.le_refl 0, by show (0 : Int) < (st.rows.length : Int); omega, hv.labels, hs.2, dSys_edge hG, fun i hi => ?_⟩
 have h1 := List.pairwise_iff_getElem.1 (rise_up hu) i (i + 1) (Nat.lt_of_succ_lt hi) hi (Nat.lt_succ_self i)
 exact h1
theorem dSys_single {t : Lts} {st : DNet} (hv : Valid t) (h : DOk t st) : Single (dSys t st) := by
 have hG := dok_good hv h
 have hu := dok_up h
 have h1 : ∀ i (hi : i < st.edges.length), st.edges[i].lab ≠ 0 := fun i hi => by
  have := (hG.edges _ (List.getElem_mem hi)).2.1.1
  omega
 have h2 : ∀ i (hi : i + 1 < st.edges.length), ¬ (st.edges[i + 1].src = st.edges[i].src ∧ st.edges[i + 1].lab = st.edges[i].lab) := fun i hi => by
  have := List.pairwise_iff_getElem.1 hu i (i + 1) (Nat.lt_of_succ_lt hi) hi (Nat.lt_succ_self i)
  omega
 exact ⟨h1, h2⟩

end Go.Proofs.YtpoleaekcjjedaaGreatDoor

namespace Go.Proofs.YtpoleaekcjjedaaGreatDoor
open Go Go.RowKit

/-- Words, the last letter first, in the order of a search: by length, then letter by letter. -/
def slt : List Nat → List Nat → Prop
 | [], [] => False
 | [], _ :: _ => True
 | _ :: _, [] => False
 | a :: u, b :: v => slt u v ∨ (u = v ∧ a < b)
theorem slt_irrefl : ∀ u, ¬ slt u u
 | [], h => h
 | a :: u, h => by
  rcases h with h | ⟨-, h⟩
  ·exact slt_irrefl u h
  ·exact Nat.lt_irrefl _ h
theorem slt_trans : ∀ {u v x : List Nat}, slt u v → slt v x → slt u x
 | [], [], _, h, _ => h.elim
 | _ :: _, [], _, h, _ => h.elim
 | _, _ :: _, [], _, h => h.elim
 | [], _ :: _, _ :: _, _, _ => trivial
 | a :: u, b :: v, c :: x, h, k => by
  rcases h with h | ⟨rfl, h⟩ <;> rcases k with k | ⟨rfl, k⟩
  ·exact .inl (slt_trans h k)
  ·exact .inl h
  ·exact .inl k
  ·exact .inr ⟨rfl, Nat.lt_trans h k⟩
theorem slt_trich : ∀ u v : List Nat, slt u v ∨ u = v ∨ slt v u
 | [], [] => .inr (.inl rfl)
 | [], _ :: _ => .inl trivial
 | _ :: _, [] => .inr (.inr trivial)
 | a :: u, b :: v => by
  rcases slt_trich u v with h | rfl | h
  ·exact .inl (.inl h)
  ·rcases Nat.lt_trichotomy a b with h | rfl | h
   ·exact .inl (.inr ⟨rfl, h⟩)
   ·exact .inr (.inl rfl)
   ·exact .inr (.inr (.inr ⟨rfl, h⟩))
  ·exact .inr (.inr (.inl h))
theorem slt_cons (a : Nat) : ∀ u : List Nat, slt u (a :: u)
 | [] => trivial
 | b :: u => .inl (slt_cons b u)
theorem slt_up {u v : List Nat} (a b : Nat) (h : slt u v) : slt (a :: u) (b :: v) := .inl h
def sle (u v : List Nat) : Prop := u = v ∨ slt u v
theorem sle_lt {u v x : List Nat} (h : sle u v) (k : slt v x) : slt u x := by
 rcases h with rfl | h
 ·exact k
 ·exact slt_trans h k
theorem sle_trans {u v x : List Nat} (h : sle u v) (k : sle v x) : sle u x := by
 rcases k with rfl | k
 ·exact h
 ·exact .inr (sle_lt h k)
theorem sle_up {u v : List Nat} (a : Nat) (h : sle u v) : sle (a :: u) (a :: v) := by
 rcases h with rfl | h
 ·exact .inl rfl
 ·exact .inr (.inl h)
theorem sle_not {u v : List Nat} (h : sle u v) (k : slt v u) : False := slt_irrefl _ (sle_lt h k)

section
variable {S : Type} (s0 : S) (step : S → Nat → S) (m : Nat)
/-- Where a word leads. -/
def wAt : List Nat → S
 | [] => s0
 | a :: u => step (wAt u) a
def WOk (u : List Nat) : Prop := ∀ a ∈ u, a < m
/-- The first word that leads where F holds. -/
def Least (F : S → Prop) (u : List Nat) : Prop := WOk m u ∧ F (wAt s0 step u) ∧ ∀ v, WOk m v → slt v u → ¬ F (wAt s0 step v)
def NoWord (F : S → Prop) : Prop := ∀ v, WOk m v → ¬ F (wAt s0 step v)
variable {s0 step m}
theorem Least.unique {F : S → Prop} {u v : List Nat} (hu : Least s0 step m F u) (hv : Least s0 step m F v) : u = v := by
 rcases slt_trich u v with h | h | h
 ·exact absurd hu.2.1 (hv.2.2 u hu.1 h)
 ·exact h
 ·exact absurd hv.2.1 (hu.2.2 v hv.1 h)
theorem Least.some {F : S → Prop} {u : List Nat} (hu : Least s0 step m F u) (h : NoWord s0 step m F) : False := h u hu.1 hu.2.1
theorem Least.congr {F G : S → Prop} {u : List Nat} (hu : Least s0 step m F u) (h : ∀ v, WOk m v → (F (wAt s0 step v) ↔ G (wAt s0 step v))) : Least s0 step m G u :=
 ⟨hu.1, (h u hu.1).1 hu.2.1, fun v hv hs k => hu.2.2 v hv hs ((h v hv).2 k)⟩
theorem NoWord.congr {F G : S → Prop} (hu : NoWord s0 step m F) (h : ∀ v, WOk m v → (F (wAt s0 step v) ↔ G (wAt s0 step v))) : NoWord s0 step m G :=
 fun v hv k => hu v hv ((h v hv).2 k)

variable (s0 step m)
/-- A search with a queue, that looks at a state when it is taken. -/
structure QSt (dead F : S → Prop) (seen Q : List (List Nat)) : Prop where
 ok : ∀ u ∈ seen ++ Q, WOk m u
 sorted : (seen ++ Q).Pairwise slt
 root : [] ∈ seen ∨ [] ∈ Q ∨ dead s0
 par : ∀ u ∈ Q, u = [] ∨ ∃ a v, u = a :: v ∧ v ∈ seen
 nodup : (seen.map (wAt s0 step)).Nodup
 alive : ∀ u ∈ seen, ¬ dead (wAt s0 step u)
 noF : ∀ u ∈ seen, ¬ F (wAt s0 step u)
 done : ∀ u ∈ seen, ∀ a, a < m → (a :: u) ∈ Q ∨ dead (wAt s0 step (a :: u)) ∨ ∃ v ∈ seen, wAt s0 step v = wAt s0 step (a :: u) ∧ sle v (a :: u)
variable {s0 step m}
theorem QSt.start (dead F : S → Prop) : QSt s0 step m dead F [] [[]] :=
 ⟨fun u hu => by rw [List.nil_append, List.mem_singleton] at hu; subst hu; exact (fun a ha => by cases ha), by simp, .inr (.inl (by simp)), fun u hu => .inl (by simpa using hu), by simp, by simp, by simp, by simp⟩
/-- All words ahead of the queue's first are known. -/
theorem QSt.known {dead F : S → Prop} {seen Q : List (List Nat)} (hd : ∀ s a, dead s → dead (step s a)) (h : QSt s0 step m dead F seen Q) (fr : List Nat → Prop) (hf : ∀ u v, fr u → slt v u → fr v) (hq : ∀ u ∈ Q, ¬ fr u) :
  ∀ v, WOk m v → fr v → dead (wAt s0 step v) ∨ ∃ u ∈ seen, wAt s0 step u = wAt s0 step v ∧ sle u v
 | [], _, hv => by
  rcases h.root with h1 | h1 | h1
  ·exact .inr ⟨[], h1, rfl, .inl rfl⟩
  ·exact absurd hv (hq _ h1)
  ·exact .inl h1
 | a :: v, ho, hv => by
  have hv2 := hf _ v hv (slt_cons a v)
  rcases QSt.known hd h fr hf hq v (fun b hb => ho b (List.mem_cons_of_mem _ hb)) hv2 with h1 | ⟨u, hu, he, hs⟩
  ·exact .inl (hd _ _ h1)
  ·have hes : wAt s0 step (a :: u) = wAt s0 step (a :: v) := by simp only [wAt]; rw [he]
   rcases h.done u hu a (ho a (by simp)) with h2 | h2 | ⟨x, hx, hxe, hxs⟩
   ·rcases sle_up a hs with e | hs2
    ·rw [e] at h2; exact absurd hv (hq _ h2)
    ·exact absurd (hf _ _ hv hs2) (hq _ h2)
   ·rw [hes] at h2; exact .inl h2
   ·exact .inr ⟨x, hx, hxe.trans hes, sle_trans hxs (sle_up a hs)⟩
theorem QSt.least {dead F : S → Prop} {seen Q : List (List Nat)} {u : List Nat} (hd : ∀ s a, dead s → dead (step s a)) (hdF : ∀ s, dead s → ¬ F s) (h : QSt s0 step m dead F seen (u :: Q)) (hF : F (wAt s0 step u)) : Least s0 step m F u := by
 refine ⟨h.ok u (by simp), hF, fun v hv hs hFv => ?_⟩
 have hp := (List.pairwise_append.1 h.sorted).2.1
 rw [List.pairwise_cons] at hp
 rcases QSt.known hd h (fun x => slt x u) (fun a b h1 h2 => slt_trans h2 h1) (fun x hx => by
  rcases List.mem_cons.1 hx with rfl | hx
  ·exact slt_irrefl _
  ·exact fun k => slt_irrefl _ (slt_trans k (hp.1 x hx))) v hv hs with h1 | ⟨x, hx, he, -⟩
 ·exact hdF _ h1 hFv
 ·exact h.noF x hx (he ▸ hFv)
theorem QSt.none {dead F : S → Prop} {seen : List (List Nat)} (hd : ∀ s a, dead s → dead (step s a)) (hdF : ∀ s, dead s → ¬ F s) (h : QSt s0 step m dead F seen []) : NoWord s0 step m F := by
 intro v hv hFv
 rcases QSt.known hd h (fun _ => True) (fun _ _ _ _ => trivial) (fun u hu => by cases hu) v hv trivial with h1 | ⟨x, hx, he, -⟩
 ·exact hdF _ h1 hFv
 ·exact h.noF x hx (he ▸ hFv)
theorem QSt.skip {dead F : S → Prop} {seen Q : List (List Nat)} {u : List Nat} (h : QSt s0 step m dead F seen (u :: Q)) (hu : dead (wAt s0 step u) ∨ ∃ v ∈ seen, wAt s0 step v = wAt s0 step u) : QSt s0 step m dead F seen Q := by
 have hsort := List.pairwise_append.1 h.sorted
 have hcase : dead (wAt s0 step u) ∨ ∃ v ∈ seen, wAt s0 step v = wAt s0 step u ∧ sle v u := by
  rcases hu with hu | ⟨v, hv, he⟩
  ·exact .inl hu
  ·exact .inr ⟨v, hv, he, .inr (hsort.2.2 v hv u (by simp))⟩
 refine ⟨fun x hx => h.ok x (by simp at hx ⊢; rcases hx with h | h <;> simp [h]), ?_, ?_, fun x hx => h.par x (List.mem_cons_of_mem _ hx), h.nodup, h.alive, h.noF, fun x hx a ha => ?_⟩
 ·rw [List.pairwise_append]
  exact ⟨hsort.1, (List.pairwise_cons.1 hsort.2.1).2, fun x hx y hy => hsort.2.2 x hx y (List.mem_cons_of_mem _ hy)⟩
 ·rcases h.root with h1 | h1 | h1
  ·exact .inl h1
  ·rcases List.mem_cons.1 h1 with h2 | h2
   ·subst h2
    rcases hcase with h3 | ⟨v, hv, -, h4⟩
    ·exact .inr (.inr h3)
    ·rcases h4 with rfl | h4
     ·exact .inl hv
     ·cases v <;> exact h4.elim
   ·exact .inr (.inl h2)
  ·exact .inr (.inr h1)
 ·rcases h.done x hx a ha with h1 | h1 | h1
  ·rcases List.mem_cons.1 h1 with h2 | h2
   ·subst h2
    exact .inr hcase
   ·exact .inl h2
  ·exact .inr (.inl h1)
  ·exact .inr (.inr h1)
theorem QSt.take {dead F : S → Prop} {seen Q : List (List Nat)} {u : List Nat} (h : QSt s0 step m dead F seen (u :: Q)) (ha : ¬ dead (wAt s0 step u)) (hn : ∀ v ∈ seen, wAt s0 step v ≠ wAt s0 step u) (hF : ¬ F (wAt s0 step u)) :
  QSt s0 step m dead F (seen ++ [u]) (Q ++ (List.range m).map (· :: u)) := by
 have hsort := List.pairwise_append.1 h.sorted
 have hQ := List.pairwise_cons.1 hsort.2.1
 have hse : ∀ v ∈ seen, slt v u := fun v hv => hsort.2.2 v hv u (by simp)
 have hou := h.ok u (by simp)
 have hnew : ∀ x ∈ (List.range m).map (· :: u), ∃ a, a < m ∧ x = a :: u := fun x hx => by
  obtain ⟨a, ha, rfl⟩ := List.mem_map.1 hx
  exact ⟨a, List.mem_range.1 ha, rfl⟩
 have hqn : ∀ q ∈ Q, ∀ a, slt q (a :: u) := by
  intro q hq a
  rcases h.par q (List.mem_cons_of_mem _ hq) with rfl | ⟨b, v, rfl, hv⟩
  ·trivial
  ·exact .inl (hse v hv)
 refine ⟨?_, ?_, ?_, ?_, ?_, ?_, ?_, ?_⟩
 ·intro x hx
  simp only [List.mem_append, List.mem_singleton] at hx
  rcases hx with (hx | rfl) | hx | hx
  ·exact h.ok x (by simp [hx])
  ·exact hou
  ·exact h.ok x (by simp [hx])
  ·obtain ⟨a, ha, rfl⟩ := hnew x hx
   exact fun b hb => by
    rcases List.mem_cons.1 hb with rfl | hb
    ·exact ha
    ·exact hou b hb
 ·rw [List.append_assoc, List.singleton_append, List.pairwise_append]
  refine ⟨hsort.1, ?_, ?_⟩
  ·rw [List.pairwise_cons]
   refine ⟨fun x hx => ?_, ?_⟩
   ·rcases List.mem_append.1 hx with hx | hx
    ·exact hQ.1 x hx
    ·obtain ⟨a, -, rfl⟩ := hnew x hx
     exact slt_cons a u
   ·rw [List.pairwise_append]
    refine ⟨hQ.2, ?_, fun x hx y hy => ?_⟩
    ·rw [List.pairwise_map]
     exact List.pairwise_lt_range.imp fun hab => .inr ⟨rfl, hab⟩
    ·obtain ⟨a, -, rfl⟩ := hnew y hy
     exact hqn x hx a
  ·intro x hx y hy
   rcases List.mem_cons.1 hy with rfl | hy
   ·exact hse x hx
   ·rcases List.mem_append.1 hy with hy | hy
    ·exact hsort.2.2 x hx y (List.mem_cons_of_mem _ hy)
    ·obtain ⟨a, -, rfl⟩ := hnew y hy
     exact slt_trans (hse x hx) (slt_cons a u)
 ·rcases h.root with h1 | h1 | h1
  ·exact .inl (by simp [h1])
  ·rcases List.mem_cons.1 h1 with h2 | h2
   ·exact .inl (by simp [h2])
   ·exact .inr (.inl (by simp [h2]))
  ·exact .inr (.inr h1)
 ·intro x hx
  rcases List.mem_append.1 hx with hx | hx
  ·rcases h.par x (List.mem_cons_of_mem _ hx) with e | ⟨a, v, e, hv⟩
   ·exact .inl e
   ·exact .inr ⟨a, v, e, by simp [hv]⟩
  ·obtain ⟨a, -, rfl⟩ := hnew x hx
   exact .inr ⟨a, u, rfl, by simp⟩
 ·rw [List.map_append, List.nodup_append]
  refine ⟨h.nodup, by simp, fun x hx y hy e => ?_⟩
  obtain ⟨v, hv, rfl⟩ := List.mem_map.1 hx
  simp only [List.map_cons, List.map_nil, List.mem_singleton] at hy
  subst hy
  exact hn v hv e
 ·intro x hx
  rcases List.mem_append.1 hx with hx | hx
  ·exact h.alive x hx
  ·rw [List.mem_singleton] at hx; subst hx; exact ha
 ·intro x hx
  rcases List.mem_append.1 hx with hx | hx
  ·exact h.noF x hx
  ·rw [List.mem_singleton] at hx; subst hx; exact hF
 ·intro x hx a ham
  rcases List.mem_append.1 hx with hx | hx
  ·rcases h.done x hx a ham with h1 | h1 | ⟨v, hv, he, hs⟩
   ·rcases List.mem_cons.1 h1 with h2 | h2
    ·exact .inr (.inr ⟨u, by simp, by rw [h2], .inl h2.symm⟩)
    ·exact .inl (by simp [h2])
   ·exact .inr (.inl h1)
   ·exact .inr (.inr ⟨v, by simp [hv], he, hs⟩)
  ·rw [List.mem_singleton] at hx
   subst hx
   exact .inl (List.mem_append.2 (.inr (List.mem_map.2 ⟨a, List.mem_range.2 ham, rfl⟩)))

variable (s0 step m)
/-- A search that looks at a state when it is met: the words of the states met, i of them taken whole, of the next one k letters. -/
structure NSt (dead F : S → Prop) (N : List (List Nat)) (i k : Nat) : Prop where
 first : N[0]? = some []
 ok : ∀ u ∈ N, WOk m u
 sorted : N.Pairwise slt
 alive : ∀ u ∈ N, ¬ dead (wAt s0 step u)
 noF : ∀ u ∈ N, ¬ F (wAt s0 step u)
 nodup : (N.map (wAt s0 step)).Nodup
 par : ∀ u ∈ N, u = [] ∨ ∃ a j v, u = a :: v ∧ N[j]? = some v ∧ (j < i ∨ (j = i ∧ a < k))
 done : ∀ j v, N[j]? = some v → ∀ a, a < m → (j < i ∨ (j = i ∧ a < k)) → dead (wAt s0 step (a :: v)) ∨ ∃ x ∈ N, wAt s0 step x = wAt s0 step (a :: v) ∧ sle x (a :: v)
variable {s0 step m}
theorem NSt.start {dead F : S → Prop} (h1 : ¬ dead s0) (h2 : ¬ F s0) : NSt s0 step m dead F [[]] 0 0 :=
 ⟨rfl, fun u hu => by rw [List.mem_singleton] at hu; subst hu; exact (fun a ha => by cases ha), by simp, fun u hu => by rw [List.mem_singleton] at hu; subst hu; exact h1, fun u hu => by rw [List.mem_singleton] at hu; subst hu; exact h2, by simp,
  fun u hu => .inl (by simpa using hu), fun j v _ a _ h => by omega⟩
/-- The next letter leads nowhere new. -/
theorem NSt.pass {dead F : S → Prop} {N : List (List Nat)} {i k : Nat} {u : List Nat} (h : NSt s0 step m dead F N i k) (hu : N[i]? = some u) (hd : dead (wAt s0 step (k :: u)) ∨ ∃ x ∈ N, wAt s0 step x = wAt s0 step (k :: u)) : NSt s0 step m dead F N i (k + 1) := by
 have hnew : ∀ x ∈ N, slt x (k :: u) := by
  intro x hx
  rcases h.par x hx with rfl | ⟨a, j, v, rfl, hj, h1 | ⟨rfl, h1⟩⟩
  ·trivial
  ·obtain ⟨hi, e⟩ := List.getElem?_eq_some_iff.1 hu
   obtain ⟨hj2, e2⟩ := List.getElem?_eq_some_iff.1 hj
   have := List.pairwise_iff_getElem.1 h.sorted j i hj2 hi h1
   rw [e, e2] at this
   exact .inl this
  ·rw [hu] at hj
   cases hj
   exact .inr ⟨rfl, h1⟩
 refine ⟨h.first, h.ok, h.sorted, h.alive, h.noF, h.nodup, fun x hx => ?_, fun j v hv a ha hjk => ?_⟩
 ·rcases h.par x hx with e | ⟨a, j, v, e, hj, h1⟩
  ·exact .inl e
  ·exact .inr ⟨a, j, v, e, hj, by omega⟩
 ·by_cases hc : j < i ∨ (j = i ∧ a < k)
  ·exact h.done j v hv a ha hc
  ·obtain ⟨rfl, rfl⟩ : j = i ∧ a = k := by omega
   rw [hu] at hv
   cases hv
   rcases hd with hd | ⟨x, hx, he⟩
   ·exact .inl hd
   ·exact .inr ⟨x, hx, he, .inr (hnew x hx)⟩
theorem NSt.meet {dead F : S → Prop} {N : List (List Nat)} {i k : Nat} {u : List Nat} (h : NSt s0 step m dead F N i k) (hu : N[i]? = some u) (hk : k < m) (h1 : ¬ dead (wAt s0 step (k :: u))) (h2 : ¬ F (wAt s0 step (k :: u)))
  (h3 : ∀ x ∈ N, wAt s0 step x ≠ wAt s0 step (k :: u)) : NSt s0 step m dead F (N ++ [k :: u]) i (k + 1) := by
 have hnew : ∀ x ∈ N, slt x (k :: u) := by
  intro x hx
  rcases h.par x hx with rfl | ⟨a, j, v, rfl, hj, h1 | ⟨rfl, h1⟩⟩
  ·trivial
  ·obtain ⟨hi, e⟩ := List.getElem?_eq_some_iff.1 hu
   obtain ⟨hj2, e2⟩ := List.getElem?_eq_some_iff.1 hj
   have := List.pairwise_iff_getElem.1 h.sorted j i hj2 hi h1
   rw [e, e2] at this
   exact .inl this
  ·rw [hu] at hj
   cases hj
   exact .inr ⟨rfl, h1⟩
 have hi := (List.getElem?_eq_some_iff.1 hu).1
 have hum : u ∈ N := by obtain ⟨hi, e⟩ := List.getElem?_eq_some_iff.1 hu; rw [← e]; exact List.getElem_mem _
 have hpos : 0 < N.length := by omega
 have hall : ∀ (Q : List Nat → Prop), (∀ x ∈ N, Q x) → Q (k :: u) → ∀ x ∈ N ++ [k :: u], Q x := fun Q hQ hk x hx => by
  rcases List.mem_append.1 hx with hx | hx
  ·exact hQ x hx
  ·rw [List.mem_singleton] at hx; subst hx; exact hk
 refine ⟨by rw [List.getElem?_append_left hpos]; exact h.first, hall _ h.ok ?_, ?_, hall _ h.alive h1, hall _ h.noF h2, ?_, hall _ ?_ ?_, ?_⟩
 ·intro b hb
  rcases List.mem_cons.1 hb with rfl | hb
  ·exact hk
  ·exact h.ok u hum b hb
 ·rw [List.pairwise_append]
  exact ⟨h.sorted, by simp, fun x hx y hy => by rw [List.mem_singleton] at hy; subst hy; exact hnew x hx⟩
 ·rw [List.map_append, List.nodup_append]
  refine ⟨h.nodup, by simp, fun x hx y hy e => ?_⟩
  obtain ⟨v, hv, rfl⟩ := List.mem_map.1 hx
  simp only [List.map_cons, List.map_nil, List.mem_singleton] at hy
  subst hy
  exact h3 v hv e
 ·intro x hx
  rcases h.par x hx with e | ⟨a, j, v, e, hj, h4⟩
  ·exact .inl e
  ·exact .inr ⟨a, j, v, e, by rw [List.getElem?_append_left (List.getElem?_eq_some_iff.1 hj).1]; exact hj, by omega⟩
 ·exact .inr ⟨k, i, u, rfl, by rw [List.getElem?_append_left hi]; exact hu, .inr ⟨rfl, by omega⟩⟩
 ·intro j v hv a ha hjk
  have hjl : j < N.length := by rcases hjk with h | ⟨h, -⟩ <;> omega
  rw [List.getElem?_append_left hjl] at hv
  by_cases hc : j < i ∨ (j = i ∧ a < k)
  ·rcases h.done j v hv a ha hc with h4 | ⟨x, hx, h5, h6⟩
   ·exact .inl h4
   ·exact .inr ⟨x, by simp [hx], h5, h6⟩
  ·obtain ⟨rfl, rfl⟩ : j = i ∧ a = k := by omega
   rw [hu] at hv
   cases hv
   exact .inr ⟨a :: u, by simp, rfl, .inl rfl⟩
theorem NSt.next {dead F : S → Prop} {N : List (List Nat)} {i : Nat} (h : NSt s0 step m dead F N i m) : NSt s0 step m dead F N (i + 1) 0 :=
 ⟨h.first, h.ok, h.sorted, h.alive, h.noF, h.nodup, fun x hx => by
  rcases h.par x hx with e | ⟨a, j, v, e, hj, h1⟩
  ·exact .inl e
  ·exact .inr ⟨a, j, v, e, hj, by omega⟩, fun j v hv a ha hjk => h.done j v hv a ha (by omega)⟩
theorem NSt.known {dead F : S → Prop} {N : List (List Nat)} {i k : Nat} (hd : ∀ s a, dead s → dead (step s a)) (h : NSt s0 step m dead F N i k) (fr : List Nat → Prop) (hf : ∀ u v, fr u → slt v u → fr v)
  (hq : ∀ j v a, N[j]? = some v → a < m → fr (a :: v) → j < i ∨ (j = i ∧ a < k)) : ∀ v, WOk m v → fr v → dead (wAt s0 step v) ∨ ∃ u ∈ N, wAt s0 step u = wAt s0 step v ∧ sle u v
 | [], _, hv => .inr ⟨[], by obtain ⟨hi, e⟩ := List.getElem?_eq_some_iff.1 h.first; rw [← e]; exact List.getElem_mem _, rfl, .inl rfl⟩
 | a :: v, ho, hv => by
  have hv2 := hf _ v hv (slt_cons a v)
  have ha := ho a (by simp)
  rcases NSt.known hd h fr hf hq v (fun b hb => ho b (List.mem_cons_of_mem _ hb)) hv2 with h1 | ⟨u, hu, he, hs⟩
  ·exact .inl (hd _ _ h1)
  ·have hes : wAt s0 step (a :: u) = wAt s0 step (a :: v) := by simp only [wAt]; rw [he]
   obtain ⟨j, hj, e⟩ := List.mem_iff_getElem.1 hu
   have hju : N[j]? = some u := by rw [List.getElem?_eq_getElem hj, e]
   have hfr : fr (a :: u) := by
    rcases sle_up a hs with e | hs2
    ·rw [e]; exact hv
    ·exact hf _ _ hv hs2
   rcases h.done j u hju a ha (hq j u a hju ha hfr) with h2 | ⟨x, hx, hxe, hxs⟩
   ·rw [hes] at h2; exact .inl h2
   ·exact .inr ⟨x, hx, hxe.trans hes, sle_trans hxs (sle_up a hs)⟩
theorem NSt.least {dead F : S → Prop} {N : List (List Nat)} {i k : Nat} {u : List Nat} (hd : ∀ s a, dead s → dead (step s a)) (hdF : ∀ s, dead s → ¬ F s) (h : NSt s0 step m dead F N i k) (hu : N[i]? = some u) (hk : k < m) (hF : F (wAt s0 step (k :: u))) : Least s0 step m F (k :: u) := by
 have hi := (List.getElem?_eq_some_iff.1 hu)
 refine ⟨?_, hF, fun v hv hs hFv => ?_⟩
 ·intro b hb
  rcases List.mem_cons.1 hb with rfl | hb
  ·exact hk
  ·exact h.ok u (by rw [← hi.2]; exact List.getElem_mem _) b hb
 ·rcases NSt.known hd h (fun x => slt x (k :: u)) (fun a b h1 h2 => slt_trans h2 h1) (fun j v a hj ha hs => by
   rcases hs with hs | ⟨rfl, hs⟩
   ·obtain ⟨hjl, e⟩ := List.getElem?_eq_some_iff.1 hj
    rcases Nat.lt_trichotomy j i with h1 | h1 | h1
    ·exact .inl h1
    ·exfalso
     subst h1
     rw [hu] at hj
     cases hj
     exact absurd hs (slt_irrefl _)
    ·have := List.pairwise_iff_getElem.1 h.sorted i j hi.1 hjl h1
     rw [e, hi.2] at this
     exact absurd (slt_trans hs this) (slt_irrefl _)
   ·obtain ⟨hjl, e⟩ := List.getElem?_eq_some_iff.1 hj
    rcases Nat.lt_trichotomy j i with h1 | h1 | h1
    ·exact .inl h1
    ·exact .inr ⟨h1, by assumption⟩
    ·have := List.pairwise_iff_getElem.1 h.sorted i j hi.1 hjl h1
     rw [e, hi.2] at this
     exact absurd this (slt_irrefl _)) v hv hs with h1 | ⟨x, hx, he, -⟩
  ·exact hdF _ h1 hFv
  ·exact h.noF x hx (he ▸ hFv)
theorem NSt.none {dead F : S → Prop} {N : List (List Nat)} {i : Nat} (hd : ∀ s a, dead s → dead (step s a)) (hdF : ∀ s, dead s → ¬ F s) (h : NSt s0 step m dead F N i 0) (hi : N.length ≤ i) : NoWord s0 step m F := by
 intro v hv hFv
 rcases NSt.known hd h (fun _ => True) (fun _ _ _ _ => trivial) (fun j v a hj _ _ => .inl (by have := (List.getElem?_eq_some_iff.1 hj).1; omega)) v hv trivial with h1 | ⟨x, hx, he, -⟩
 ·exact hdF _ h1 hFv
 ·exact h.noF x hx (he ▸ hFv)
end

end Go.Proofs.YtpoleaekcjjedaaGreatDoor

namespace Go.Proofs.YtpoleaekcjjedaaGreatDoor
open Go Go.RowKit

/-- The visible labels of both. -/
def bothL (a b : Lts) : List ByteArray := labSet (tauT :: (a.labels ++ b.labels))
def labK (L : List ByteArray) (k : Nat) : ByteArray := L.getD (k + 1) ByteArray.empty
/-- Both systems take a label. -/
def goBoth (x y : Lts) (L : List ByteArray) (p : Int × Int) (k : Nat) : Int × Int := (goTo x p.1 (labK L k), goTo y p.2 (labK L k))
/-- The trace of a word. -/
def txtsOf (L : List ByteArray) (u : List Nat) : List ByteArray := u.reverse.map (labK L)
theorem txtsOf_cons (L : List ByteArray) (k : Nat) (u : List Nat) : txtsOf L (k :: u) = txtsOf L u ++ [labK L k] := by simp [txtsOf]
theorem goTo_neg {x : Lts} {q : Int} (h : q < 0) (l : ByteArray) : goTo x q l = -1 := by unfold goTo; rw [if_pos h]

/-- What both searches look for: a trace of b that is none of a; with 'both', one of a that is none of b too. -/
def apart (both : Bool) (p : Int × Int) : Prop := (p.1 < 0 ∧ 0 ≤ p.2) ∨ (both = true ∧ 0 ≤ p.1 ∧ p.2 < 0)
/-- The answer, the trace, the code. -/
def CmpIs (a b : Lts) (both : Bool) (r : Bool) (xs : List ByteArray) (code : Int) : Prop :=
 (¬ (Valid a ∧ Valid b) ∧ r = false ∧ xs = [] ∧ code = 1) ∨ ((Valid a ∧ Valid b) ∧ (DFull a ∨ DFull b) ∧ r = false ∧ xs = [] ∧ code = 5)
  ∨ ((Valid a ∧ Valid b) ∧ ∃ sa sb, DOk a sa ∧ DOk b sb ∧ code = 0 ∧ ((NoWord ((0 : Int), (0 : Int)) (goBoth (dSys a sa) (dSys b sb) (bothL a b)) ((bothL a b).length - 1) (apart both) ∧ r = true ∧ xs = [])
   ∨ ∃ u, Least ((0 : Int), (0 : Int)) (goBoth (dSys a sa) (dSys b sb) (bothL a b)) ((bothL a b).length - 1) (apart both) u ∧ r = false ∧ xs = txtsOf (bothL a b) u))
theorem CmpIs.unique {a b : Lts} {both r r' : Bool} {xs xs' : List ByteArray} {code code' : Int} (h : CmpIs a b both r xs code) (k : CmpIs a b both r' xs' code') : r = r' ∧ xs = xs' ∧ code = code' := by
 rcases h with ⟨h1, h2, h3, h4⟩ | ⟨h1, h2, h3, h4, h5⟩ | ⟨h1, sa, sb, h2, h3, h4, h5⟩ <;>
  rcases k with ⟨k1, k2, k3, k4⟩ | ⟨k1, k2, k3, k4, k5⟩ | ⟨k1, sa', sb', k2, k3, k4, k5⟩ <;>
  first
  | exact absurd k1 h1
  | exact absurd h1 k1
  | exact ⟨h2.trans k2.symm, h3.trans k3.symm, h4.trans k4.symm⟩
  | exact ⟨h3.trans k3.symm, h4.trans k4.symm, h5.trans k5.symm⟩
  | exact absurd k2 (fun e => e.elim h2.not_full h3.not_full)
  | exact absurd h2 (fun e => e.elim k2.not_full k3.not_full)
  | skip
 have e1 := h2.1.unique k2.1
 have e2 := h3.1.unique k3.1
 subst e1 e2
 refine ⟨?_, ?_, h4.trans k4.symm⟩ <;>
  rcases h5 with ⟨a1, a2, a3⟩ | ⟨u, a1, a2, a3⟩ <;> rcases k5 with ⟨b1, b2, b3⟩ | ⟨u', b1, b2, b3⟩ <;>
  first
  | exact a2.trans b2.symm
  | exact a3.trans b3.symm
  | exact (b1.some a1).elim
  | exact (a1.some b1).elim
  | (have := a1.unique b1; subst this; exact a3.trans b3.symm)

end Go.Proofs.YtpoleaekcjjedaaGreatDoor

namespace Go.Proofs.YtpoleaekcjjedaaGreatDoor
open Go Go.RowKit

/-- Each edge leads to the set behind it. -/
def EOk (t : Lts) (st : DNet) : Prop := ∀ e ∈ st.edges, ∃ cur, st.rows[e.src.toNat]? = some cur ∧ nextS t cur e.lab ≠ [] ∧ st.rows[e.dst.toNat]? = some (nextS t cur e.lab)
theorem dadd_get (rows : List (List Int)) (r : List Int) : (dadd rows r)[dplace rows r]? = some r := by
 unfold dadd
 have h2 := dplace_le rows r
 split
 ·next h => rw [List.getElem?_eq_getElem h, dplace_get h]
 ·next h =>
  have h3 : dplace rows r = rows.length := by omega
  rw [h3, List.getElem?_concat_length]
theorem dadd_old {rows : List (List Int)} (r : List Int) {i : Nat} {cur : List Int} (h : rows[i]? = some cur) : (dadd rows r)[i]? = some cur := by
 unfold dadd
 split
 ·exact h
 ·rw [List.getElem?_append_left (List.getElem?_eq_some_iff.1 h).1]; exact h
theorem EOk.step {t : Lts} {st : DNet} {i : Nat} {cur : List Int} (h : EOk t st) (hc : st.rows[i]? = some cur) (k : Nat) : EOk t (dstep t i cur st k) ∧ (dstep t i cur st k).rows[i]? = some cur := by
 unfold dstep
 split
 ·exact ⟨h, hc⟩
 ·next hne =>
  refine ⟨fun e he => ?_, dadd_old _ hc⟩
  rcases List.mem_append.1 he with he | he
  ·obtain ⟨c, h1, h2, h3⟩ := h e he
   exact ⟨c, dadd_old _ h1, h2, dadd_old _ h3⟩
  ·rw [List.mem_singleton] at he
   subst he
   refine ⟨cur, dadd_old _ (by rw [Int.toNat_natCast]; exact hc), hne, ?_⟩
   rw [Int.toNat_natCast]
   exact dadd_get _ _
theorem EOk.mid {t : Lts} {st : DNet} {i : Nat} {cur : List Int} (h : EOk t st) (hc : st.rows[i]? = some cur) : ∀ j, EOk t (dmid t i cur st j) ∧ (dmid t i cur st j).rows[i]? = some cur
 | 0 => ⟨h, hc⟩
 | j + 1 => by rw [dmid_succ]; exact (EOk.mid h hc j).1.step (EOk.mid h hc j).2 j
theorem EOk.at (t : Lts) : ∀ n, EOk t (dAt t n)
 | 0 => fun e he => by simp [dAt] at he
 | n + 1 => by
  rw [dAt]
  unfold drow
  split
  ·exact EOk.at t n
  ·next cur hc => exact ((EOk.at t n).mid hc _).1
theorem dok_eok {t : Lts} {st : DNet} (h : DOk t st) : EOk t st := by
 obtain ⟨⟨n, -, rfl, -⟩, -⟩ := h
 exact EOk.at t n
/-- A row, when its turn came. -/
theorem DOk.row {t : Lts} {st : DNet} (h : DOk t st) {i : Nat} (hi : i < st.rows.length) : ∃ cur, (dAt t i).rows[i]? = some cur ∧ st.rows[i]? = some cur ∧ (∀ j, j ≤ t.labels.length - 1 → DLe (dmid t i cur (dAt t i) j) st) ∧ dmid t i cur (dAt t i) (t.labels.length - 1) = dAt t (i + 1) := by
 obtain ⟨⟨m, hm, em, lm⟩, -⟩ := h
 have h1 := hm i (by omega)
 have hcur : (dAt t i).rows[i]? = some (dAt t i).rows[i] := List.getElem?_eq_getElem h1
 have h2 := dAt_le t i (m - i)
 rw [show i + (m - i) = m from by omega, em] at h2
 refine ⟨_, hcur, ?_, fun j hj => ?_, (dAt_succ hcur).symm⟩
 ·obtain ⟨r, hr⟩ := h2.rows
  rw [hr, List.getElem?_append_left h1]
  exact hcur
 ·have h3 := dmid_le t i (dAt t i).rows[i] (dAt t i) j (t.labels.length - 1 - j)
  rw [show j + (t.labels.length - 1 - j) = t.labels.length - 1 from by omega, ← dAt_succ hcur] at h3
  have h4 := dAt_le t (i + 1) (m - (i + 1))
  rw [show i + 1 + (m - (i + 1)) = m from by omega, em] at h4
  exact h3.trans h4
/-- An edge is found by its state and label. -/
theorem go_edge {t : Lts} {st : DNet} (hv : Valid t) (h : DOk t st) {e : Edge} (he : e ∈ st.edges) {k : Nat} (hk : k + 1 < t.labels.length) (hl : e.lab = (k : Int) + 1) : goTo (dSys t st) e.src (labK t.labels k) = e.dst := by
 have hG := dok_good hv h
 have hs0 := (hG.edges e he).1.1
 have hlk : labK t.labels k = t.labels[k + 1] := by unfold labK; rw [List.getD_eq_getElem?_getD, List.getElem?_eq_getElem hk]; rfl
 unfold goTo
 rw [if_neg (by omega)]
 have hfind : st.edges.find? (hitB (dSys t st) e.src (labK t.labels k)) = some e := by
  obtain ⟨j, hj, rfl⟩ := List.mem_iff_getElem.1 he
  refine find_at hj (fun i hi hij => ?_) ?_
  ·unfold hitB
   rw [Bool.and_eq_false_iff]
   by_cases hs : st.edges[i].src = st.edges[j].src
   ·right
    rw [beq_eq_false_iff_ne]
    intro hb
    obtain ⟨h1, h2, h3⟩ := lab_get hG (List.getElem_mem hi)
    have h4 : (labAt (dSys t st) st.edges[i]) = t.labels[st.edges[i].lab.toNat] := h2
    rw [h4, hlk] at hb
    have := labels_inj hv.labels _ _ h1 hk hb
    have hup := List.pairwise_iff_getElem.1 (dok_up h) i j hi hj hij
    omega
   ·left
    rw [beq_eq_false_iff_ne]
    exact hs
  ·unfold hitB
   obtain ⟨h1, h2, h3⟩ := lab_get hG he
   have h4 : (labAt (dSys t st) st.edges[j]) = t.labels[st.edges[j].lab.toNat] := h2
   have h5 : st.edges[j].lab.toNat = k + 1 := by omega
   rw [h4, hlk]
   simp [h5]
 show ((st.edges.find? _).map Edge.dst).getD (-1) = e.dst
 rw [hfind]
 rfl
theorem go_none {t : Lts} {st : DNet} (hv : Valid t) (h : DOk t st) {q : Int} {k : Nat} (hk : k + 1 < t.labels.length) (hn : ∀ e ∈ st.edges, e.src = q → e.lab ≠ (k : Int) + 1) : goTo (dSys t st) q (labK t.labels k) = -1 := by
 have hG := dok_good hv h
 have hlk : labK t.labels k = t.labels[k + 1] := by unfold labK; rw [List.getD_eq_getElem?_getD, List.getElem?_eq_getElem hk]; rfl
 unfold goTo
 split
 ·rfl
 ·have hfind : st.edges.find? (hitB (dSys t st) q (labK t.labels k)) = none := by
   refine find_none fun j hj => ?_
   unfold hitB
   rw [Bool.and_eq_false_iff]
   by_cases hs : st.edges[j].src = q
   ·right
    rw [beq_eq_false_iff_ne]
    intro hb
    obtain ⟨h1, h2, h3⟩ := lab_get hG (List.getElem_mem hj)
    have h4 : (labAt (dSys t st) st.edges[j]) = t.labels[st.edges[j].lab.toNat] := h2
    rw [h4, hlk] at hb
    have := labels_inj hv.labels _ _ h1 hk hb
    exact hn _ (List.getElem_mem hj) hs (by omega)
   ·left
    rw [beq_eq_false_iff_ne]
    exact hs
  show ((st.edges.find? _).map Edge.dst).getD (-1) = -1
  rw [hfind]
  rfl
/-- Where a row's label leads: nowhere, or to the set behind it. -/
theorem go_row {t : Lts} {st : DNet} (hv : Valid t) (h : DOk t st) {i : Nat} {cur : List Int} (hc : st.rows[i]? = some cur) {k : Nat} (hk : k + 1 < t.labels.length) :
  (nextS t cur ((k : Int) + 1) = [] ∧ goTo (dSys t st) i (labK t.labels k) = -1) ∨ (nextS t cur ((k : Int) + 1) ≠ [] ∧ ∃ j : Nat, goTo (dSys t st) i (labK t.labels k) = j ∧ st.rows[j]? = some (nextS t cur ((k : Int) + 1))) := by
 have hG := dok_good hv h
 have hE := dok_eok h
 by_cases hne : nextS t cur ((k : Int) + 1) = []
 ·refine .inl ⟨hne, go_none hv h hk fun e he hs hl => ?_⟩
  obtain ⟨c, h1, h2, -⟩ := hE e he
  rw [hs, Int.toNat_natCast, hc] at h1
  cases h1
  rw [hl] at h2
  exact h2 hne
 ·refine .inr ⟨hne, ?_⟩
  have hi := (List.getElem?_eq_some_iff.1 hc).1
  obtain ⟨c, h1, h2, h3, h4⟩ := h.row hi
  rw [hc] at h2
  cases h2
  obtain ⟨r, hr⟩ := (h3 (k + 1) (by omega)).edges
  have hmem : (⟨(i : Int), (k : Int) + 1, (dplace (dmid t i cur (dAt t i) k).rows (nextS t cur (k + 1)) : Int)⟩ : Edge) ∈ st.edges := by
   rw [hr, dmid_succ]
   unfold dstep
   rw [if_neg hne]
   simp
  have hg := go_edge hv h hmem hk rfl
  obtain ⟨c2, k1, -, k3⟩ := hE _ hmem
  simp only [Int.toNat_natCast] at k1 k3
  rw [hc] at k1
  cases k1
  exact ⟨_, hg, k3⟩
/-- The number that a row's label leads to, when its turn came. -/
theorem go_place {t : Lts} {st : DNet} (hv : Valid t) (h : DOk t st) {i : Nat} {cur : List Int} (hc : (dAt t i).rows[i]? = some cur) (hi : i < st.rows.length) {k : Nat} (hk : k + 1 < t.labels.length) (hne : nextS t cur ((k : Int) + 1) ≠ []) :
  goTo (dSys t st) i (labK t.labels k) = (dplace (dmid t i cur (dAt t i) k).rows (nextS t cur ((k : Int) + 1)) : Int) := by
 obtain ⟨c, h1, h2, h3, h4⟩ := h.row hi
 rw [hc] at h1
 cases h1
 obtain ⟨r, hr⟩ := (h3 (k + 1) (by omega)).edges
 have hmem : (⟨(i : Int), (k : Int) + 1, (dplace (dmid t i cur (dAt t i) k).rows (nextS t cur (k + 1)) : Int)⟩ : Edge) ∈ st.edges := by
  rw [hr, dmid_succ]
  unfold dstep
  rw [if_neg hne]
  simp
 exact go_edge hv h hmem hk rfl

/-- A state's set; none for no state. -/
def setOf (st : DNet) (q : Int) : List Int := if q < 0 then [] else st.rows.getD q.toNat []
theorem nextS_nil {t : Lts} (hv : Valid t) (k : Int) : nextS t [] k = [] := by
 have hs := nextS_is hv [] k
 refine List.eq_nil_iff_forall_not_mem.2 fun x hx => ?_
 obtain ⟨a, ⟨e, -, -, he, -⟩, -⟩ := (hs.mem x).1 hx
 cases he
theorem setOf_at {st : DNet} {i : Nat} {cur : List Int} (h : st.rows[i]? = some cur) : setOf st (i : Int) = cur := by
 unfold setOf
 rw [if_neg (by omega), Int.toNat_natCast, List.getD_eq_getElem?_getD, h]
 rfl
theorem setOf_neg {st : DNet} {q : Int} (h : q < 0) : setOf st q = [] := by unfold setOf; rw [if_pos h]
/-- A label leads to the set behind the set. -/
theorem set_go {t : Lts} {st : DNet} (hv : Valid t) (h : DOk t st) {q : Int} (hq : q < (dSys t st).states) {k : Nat} (hk : k + 1 < t.labels.length) : setOf st (goTo (dSys t st) q (labK t.labels k)) = nextS t (setOf st q) ((k : Int) + 1) := by
 by_cases h0 : q < 0
 ·rw [goTo_neg h0, setOf_neg (by decide), setOf_neg h0, nextS_nil hv]
 ·have hq2 : q.toNat < st.rows.length := by have : q < (st.rows.length : Int) := hq; omega
  have hc : st.rows[q.toNat]? = some st.rows[q.toNat] := List.getElem?_eq_getElem hq2
  have e0 : q = ((q.toNat : Nat) : Int) := by omega
  rw [e0, setOf_at hc]
  rcases go_row hv h hc hk with ⟨h1, h2⟩ | ⟨h1, j, h2, h3⟩
  ·rw [h2, setOf_neg (by decide), h1]
  ·rw [h2, setOf_at h3]
theorem set_first {t : Lts} {st : DNet} (h : DOk t st) : setOf st 0 = firstS t := by
 obtain ⟨⟨m, hm, em, lm⟩, -⟩ := h
 obtain ⟨r, hr⟩ := (dAt_le t 0 m).rows
 rw [Nat.zero_add, em] at hr
 refine setOf_at (i := 0) ?_
 rw [hr, List.getElem?_append_left (by simp [dAt])]
 rfl
theorem set_some {t : Lts} {st : DNet} (hv : Valid t) (h : DOk t st) {q : Int} (h0 : 0 ≤ q) (hq : q < (dSys t st).states) : setOf st q ≠ [] := by
 have hG := dok_good hv h
 have hq2 : q.toNat < st.rows.length := by have : q < (st.rows.length : Int) := hq; omega
 have e0 : q = ((q.toNat : Nat) : Int) := by omega
 rw [e0, setOf_at (List.getElem?_eq_getElem hq2)]
 exact (hG.rows _ (List.getElem_mem hq2)).2.2

end Go.Proofs.YtpoleaekcjjedaaGreatDoor

namespace Go.Proofs.YtpoleaekcjjedaaGreatDoor
open Go Go.RowKit

section
variable {S : Type} {s0 : S} {step : S → Nat → S} {m : Nat}
/-- The first state met where something holds is behind the first word that leads to such a state. -/
theorem NSt.look {dead F : S → Prop} {N : List (List Nat)} {i : Nat} {u : List Nat} (hd : ∀ s a, dead s → dead (step s a)) (hdF : ∀ s, dead s → ¬ F s) (h : NSt s0 step m dead (fun _ => False) N i 0) (hu : N[i]? = some u) (hF : F (wAt s0 step u))
  (hno : ∀ (j : Nat) (v : List Nat), j < i → N[j]? = some v → ¬ F (wAt s0 step v)) : Least s0 step m F u := by
 obtain ⟨hi, hiu⟩ := List.getElem?_eq_some_iff.1 hu
 refine ⟨h.ok u (by rw [← hiu]; exact List.getElem_mem _), hF, fun v hv hs hFv => ?_⟩
 have hord : ∀ j (hj : j < N.length), ¬ j < i → sle u N[j] := fun j hj hn => by
  rcases Nat.lt_trichotomy j i with h1 | h1 | h1
  ·exact absurd h1 hn
  ·subst h1; exact .inl hiu.symm
  ·have := List.pairwise_iff_getElem.1 h.sorted i j hi hj h1
   rw [hiu] at this
   exact .inr this
 rcases NSt.known hd h (fun x => slt x u) (fun a b h1 h2 => slt_trans h2 h1) (fun j v a hj ha hs => .inl (by
  obtain ⟨hjl, e⟩ := List.getElem?_eq_some_iff.1 hj
  refine Decidable.byContradiction fun hn => ?_
  have h1 := hord j hjl hn
  rw [e] at h1
  exact slt_irrefl _ (sle_lt h1 (slt_trans (slt_cons a v) hs)))) v hv hs with h1 | ⟨x, hx, he, hsx⟩
 ·exact hdF _ h1 hFv
 ·obtain ⟨j, hj, rfl⟩ := List.mem_iff_getElem.1 hx
  by_cases hji : j < i
  ·exact hno j _ hji (List.getElem?_eq_getElem hj) (by rw [he]; exact hFv)
  ·exact slt_irrefl _ (sle_lt (hord j hj hji) (sle_lt hsx hs))
theorem NSt.lookNone {dead F : S → Prop} {N : List (List Nat)} {i : Nat} (hd : ∀ s a, dead s → dead (step s a)) (hdF : ∀ s, dead s → ¬ F s) (h : NSt s0 step m dead (fun _ => False) N i 0) (hi : N.length ≤ i)
  (hno : ∀ (j : Nat) (v : List Nat), N[j]? = some v → ¬ F (wAt s0 step v)) : NoWord s0 step m F := by
 intro v hv hFv
 rcases NSt.known hd h (fun _ => True) (fun _ _ _ _ => trivial) (fun j v a hj _ _ => .inl (by have := (List.getElem?_eq_some_iff.1 hj).1; omega)) v hv trivial with h1 | ⟨x, hx, he, -⟩
 ·exact hdF _ h1 hFv
 ·obtain ⟨j, hj, rfl⟩ := List.mem_iff_getElem.1 hx
  exact hno j _ (List.getElem?_eq_getElem hj) (by rw [he]; exact hFv)
/-- Of a search that is done: the first word where something holds. -/
theorem NSt.pick {dead F : S → Prop} {N : List (List Nat)} {i j : Nat} {u : List Nat} (hd : ∀ s a, dead s → dead (step s a)) (hdF : ∀ s, dead s → ¬ F s) (h : NSt s0 step m dead (fun _ => False) N i 0) (hi : N.length ≤ i) (hu : N[j]? = some u) (hF : F (wAt s0 step u))
  (hno : ∀ (k : Nat) (v : List Nat), k < j → N[k]? = some v → ¬ F (wAt s0 step v)) : Least s0 step m F u := by
 obtain ⟨hj, hju⟩ := List.getElem?_eq_some_iff.1 hu
 refine ⟨h.ok u (by rw [← hju]; exact List.getElem_mem _), hF, fun v hv hs hFv => ?_⟩
 rcases NSt.known hd h (fun _ => True) (fun _ _ _ _ => trivial) (fun j v a hj _ _ => .inl (by have := (List.getElem?_eq_some_iff.1 hj).1; omega)) v hv trivial with h1 | ⟨x, hx, he, hsx⟩
 ·exact hdF _ h1 hFv
 ·obtain ⟨k, hk, rfl⟩ := List.mem_iff_getElem.1 hx
  by_cases hkj : k < j
  ·exact hno k _ hkj (List.getElem?_eq_getElem hk) (by rw [he]; exact hFv)
  ·have h2 : sle u N[k] := by
    rcases Nat.lt_trichotomy k j with h1 | h1 | h1
    ·exact absurd h1 hkj
    ·subst h1; exact .inl hju.symm
    ·have := List.pairwise_iff_getElem.1 h.sorted j k hj hk h1
     rw [hju] at this
     exact .inr this
   exact slt_irrefl _ (sle_lt h2 (sle_lt hsx hs))
end

end Go.Proofs.YtpoleaekcjjedaaGreatDoor
