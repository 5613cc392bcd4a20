/-
  Steps of the search as the loops make them: the place of a set among the rows, when the net is too large, when it is whole.
  Plain laws for lts within determinize: the labels in use, the edges by them, that they lead back.
  Two deterministic systems that take the same labels: the first trace on which they differ. Plain definitions; no program in sight.
  What the reference says of a number in a list, and of two equal lists.
  The reference's place of a text among texts.
  The labels of two systems together: the reference's list of them, kept in order by insertion, is the set of all labels.
  The deterministic system of a valid one is valid and deterministic. Plain.
  The search for a word on which two systems differ: plain notions, and the memory of the reference's search.
-/
import Derived.Test.YtpoleaekcjjedaaGreatDoorD3
import Derived.Test.YtpoleaekcjjedaaGreatDoorD9
import Derived.Test.YtpoleaekcjjedaaGreatDoorD2
import Derived.Test.YtpoleaekcjjedaaGreatDoorD5
import Derived.Test.YtpoleaekcjjedaaGreatDoorD7
import Derived.Maps.AppendAt
import Derived.Test.YtpoleaekcjjedaaGreatDoorD8
namespace Go.Proofs.YtpoleaekcjjedaaGreatDoor
open Go Go.RowKit

/-- The place found among the first m rows, or -1. -/
def seenAt (rows : List (List Int)) (r : List Int) (m : Nat) : Int := if dplace rows r < m then (dplace rows r : Int) else -1
theorem seenAt_zero (rows : List (List Int)) (r : List Int) : seenAt rows r 0 = -1 := by unfold seenAt; rw [if_neg (by omega)]
theorem seenAt_hit {rows : List (List Int)} {r : List Int} {m : Nat} (hn : rows.Nodup) (hm : m < rows.length) (h : (rows[m] == r) = true) : seenAt rows r (m + 1) = m := by
  have := dplace_eq hn hm (eq_of_beq h)
  unfold seenAt
  rw [this, if_pos (by omega)]
theorem seenAt_miss {rows : List (List Int)} {r : List Int} {m : Nat} (hm : m < rows.length) (h : (rows[m] == r) = false) : seenAt rows r (m + 1) = seenAt rows r m := by
  have hne : dplace rows r ≠ m := by
    intro e
    have h2 := dplace_get (rows := rows) (q := r) (by omega)
    have h3 : rows[m] = r := by
      rw [← h2]
      congr 1
      exact e.symm
    rw [h3] at h
    simp at h
  unfold seenAt
  by_cases h1 : dplace rows r < m
  · rw [if_pos h1, if_pos (by omega)]
  · rw [if_neg h1, if_neg (by omega)]

theorem dstep_none {t : Lts} {i : Nat} {cur : List Int} {st : DNet} {k : Nat} (h : nextS t cur (k + 1) = []) : dstep t i cur st k = st := by unfold dstep; rw [if_pos h]
theorem dstep_old {t : Lts} {i : Nat} {cur : List Int} {st : DNet} {k : Nat} (h : nextS t cur (k + 1) ≠ []) (hp : dplace st.rows (nextS t cur (k + 1)) < st.rows.length) :
    dstep t i cur st k = ⟨st.rows, st.edges ++ [⟨(i : Int), (k : Int) + 1, (dplace st.rows (nextS t cur (k + 1)) : Int)⟩]⟩ := by
  unfold dstep dadd
  rw [if_neg h, if_pos hp]
theorem dstep_new {t : Lts} {i : Nat} {cur : List Int} {st : DNet} {k : Nat} (h : nextS t cur (k + 1) ≠ []) (hp : ¬ dplace st.rows (nextS t cur (k + 1)) < st.rows.length) :
    dstep t i cur st k = ⟨st.rows ++ [nextS t cur (k + 1)], st.edges ++ [⟨(i : Int), (k : Int) + 1, (st.rows.length : Int)⟩]⟩ := by
  have h2 := dplace_le st.rows (nextS t cur (k + 1))
  have h3 : dplace st.rows (nextS t cur (k + 1)) = st.rows.length := by omega
  unfold dstep dadd
  rw [if_neg h, if_neg hp, h3]

/-- A row too many. -/
theorem DFull.row {t : Lts} {n j : Nat} {cur : List Int} (hc : DCome t n) (hcur : (dAt t n).rows[n]? = some cur) (hj : j < t.labels.length - 1) (h : nextS t cur (j + 1) ≠ [])
    (hp : ¬ dplace (dmid t n cur (dAt t n) j).rows (nextS t cur (j + 1)) < (dmid t n cur (dAt t n) j).rows.length) (h40 : (dmid t n cur (dAt t n) j).rows.length = 40) : DFull t := by
  refine ⟨n, j + 1, cur, hc, hcur, hj, fun hs => ?_⟩
  rw [dmid_succ, dstep_new h hp] at hs
  have := hs.1
  simp only [List.length_append, List.length_singleton] at this
  omega
/-- An edge too many. -/
theorem DFull.edge {t : Lts} {n j : Nat} {cur : List Int} (hc : DCome t n) (hcur : (dAt t n).rows[n]? = some cur) (hj : j < t.labels.length - 1) (h : nextS t cur (j + 1) ≠ [])
    (h300 : (dmid t n cur (dAt t n) j).edges.length = 300) : DFull t := by
  refine ⟨n, j + 1, cur, hc, hcur, hj, fun hs => ?_⟩
  rw [dmid_succ] at hs
  unfold dstep at hs
  rw [if_neg h] at hs
  have := hs.2
  simp only [List.length_append, List.length_singleton] at this
  omega
theorem dAt_succ {t : Lts} {n : Nat} {cur : List Int} (hcur : (dAt t n).rows[n]? = some cur) : dAt t (n + 1) = dmid t n cur (dAt t n) (t.labels.length - 1) := by
  rw [dAt]
  unfold drow
  rw [hcur]
theorem DOk.done {t : Lts} {n : Nat} (hc : DCome t n) (hs : DSmall (dAt t n)) (hn : ¬ n < (dAt t n).rows.length) : DOk t (dAt t n) := by
  refine ⟨⟨n, hc, rfl, ?_⟩, hs⟩
  have h1 : n ≤ (dAt t n).rows.length := by
    cases n with
    | zero => omega
    | succ m =>
      have h2 := hc m (by omega)
      obtain ⟨⟨r, hr⟩, -⟩ := dAt_le t m 1
      rw [hr, List.length_append]
      omega
  omega

end Go.Proofs.YtpoleaekcjjedaaGreatDoor

namespace Go.Proofs.YtpoleaekcjjedaaGreatDoor
open Go Go.RowKit

theorem tauT_list : tauT.toList = tauB := by rw [Lib.toList_data]; rfl
theorem labels_pair {ls : List ByteArray} (h : LabelsOk ls) : (ls.map (·.data.toList)).Pairwise fun a b => lessL a b = true := by
  rw [List.pairwise_map, List.pairwise_iff_getElem]
  intro i j hi hj hij
  rw [← Lib.toList_data, ← Lib.toList_data, lessL_iff]
  have hne : ls[i].toList ≠ ls[j].toList := fun e => by have := labels_inj h i j hi hj e; omega
  refine ⟨hne, ?_⟩
  by_cases h0 : i = 0
  · subst h0; exact .inl (h.first hi)
  · refine .inr ⟨h.other j hj (by omega), ?_⟩
    have := labels_less h i j (by omega) hij hj
    unfold strLess at this
    rw [less_lt, decide_eq_true_eq] at this
    exact this
/-- Labels in strict order, tau among them. -/
theorem labelsOk_of {L : List ByteArray} (hp : (L.map (·.data.toList)).Pairwise fun a b => lessL a b = true) (ht : tauT ∈ L) (hn : L.length ≤ 12) (hok : ∀ l ∈ L, l ≠ tauT → labelOk l.data.toList = true) : LabelsOk L := by
  rw [List.pairwise_map, List.pairwise_iff_getElem] at hp
  obtain ⟨k, hk, hkt⟩ := List.mem_iff_getElem.1 ht
  have h0 : k = 0 := by
    rcases Nat.eq_zero_or_pos k with h | h
    · exact h
    · have := hp 0 k (by omega) hk h
      rw [hkt, ← Lib.toList_data, ← Lib.toList_data, tauT_list, lessL_iff] at this
      rcases this.2 with h1 | h1
      · exact absurd h1 this.1
      · exact absurd rfl h1.1
  subst h0
  have hoth : ∀ i (h : i < L.length), 1 ≤ i → L[i].toList ≠ tauB := fun i hi h1 e => by
    have := hp 0 i hk hi (by omega)
    rw [hkt, ← Lib.toList_data, ← Lib.toList_data, tauT_list, e, lessL_irrefl] at this
    cases this
  refine ⟨by omega, hn, fun h => by rw [hkt, tauT_list], fun i hi h1 => hok _ (List.getElem_mem hi) (fun e => hoth i hi h1 (by rw [e, tauT_list])), hoth, fun i hi h1 => ?_⟩
  have := hp i (i + 1) (by omega) hi (by omega)
  rw [← Lib.toList_data, ← Lib.toList_data, lessL_iff] at this
  unfold strLess
  rw [less_lt, decide_eq_true_eq]
  rcases this.2 with h2 | h2
  · exact absurd h2 (hoth i (by omega) h1)
  · exact h2.2

/-- The labels in use. -/
theorem used_is {ls us : List ByteArray} (h : LabelsOk ls) (hu : ∀ l ∈ us, l ∈ ls) : LabelsOk (labSet (tauT :: us)) ∧ (∀ l, l ∈ labSet (tauT :: us) ↔ l ∈ tauT :: us) := by
  have h0 : tauT ∈ ls := by
    have : ls[0]'h.pos = tauT := toList_inj (by rw [h.first h.pos, tauT_list])
    rw [← this]
    exact List.getElem_mem _
  have he : labSet (tauT :: us) = ls.filter fun l => @decide (l ∈ tauT :: us) (Classical.propDecidable _) := by
    refine labSet_eq ?_ fun x => ?_
    · rw [List.pairwise_map]
      exact List.Pairwise.filter _ (List.pairwise_map.1 (labels_pair h))
    · rw [List.mem_filter, @decide_eq_true_eq _ (Classical.propDecidable _)]
      refine ⟨fun hx => ⟨?_, hx⟩, fun hx => hx.2⟩
      rcases List.mem_cons.1 hx with rfl | hx
      · exact h0
      · exact hu x hx
  have hm : ∀ l, l ∈ labSet (tauT :: us) ↔ l ∈ tauT :: us := fun l => by
    rw [he, List.mem_filter, @decide_eq_true_eq _ (Classical.propDecidable _)]
    refine ⟨fun hx => hx.2, fun hx => ⟨?_, hx⟩⟩
    rcases List.mem_cons.1 hx with rfl | hx
    · exact h0
    · exact hu l hx
  refine ⟨labelsOk_of ?_ ((hm _).2 (by simp)) ?_ fun l hl hne => ?_, hm⟩
  · rw [he, List.pairwise_map]
    exact List.Pairwise.filter _ (List.pairwise_map.1 (labels_pair h))
  · rw [he]
    exact Nat.le_trans (List.length_filter_le _ _) h.most
  · have : l ∈ ls := by
      rcases List.mem_cons.1 ((hm l).1 hl) with rfl | hx
      · exact absurd rfl hne
      · exact hu l hx
    obtain ⟨i, hi, rfl⟩ := List.mem_iff_getElem.1 this
    rcases Nat.eq_zero_or_pos i with h1 | h1
    · subst h1
      exact absurd (toList_inj (by rw [h.first hi, tauT_list])) hne
    · exact h.label i hi h1
theorem all_used {ls : List ByteArray} (h : LabelsOk ls) : labSet (tauT :: ls) = ls := by
  refine labSet_eq (labels_pair h) fun x => ?_
  have h0 : tauT ∈ ls := by
    have : ls[0]'h.pos = tauT := toList_inj (by rw [h.first h.pos, tauT_list])
    rw [← this]
    exact List.getElem_mem _
  rw [List.mem_cons]
  exact ⟨fun hx => hx.elim (fun e => e ▸ h0) id, .inr⟩

/-- In a list of labels in order, places go with the order. -/
theorem idxL_mono {L : List ByteArray} (h : LabelsOk L) {a b : ByteArray} (ha : a ∈ L) (hb : b ∈ L) (hl : lessL a.toList b.toList = true) : idxL L a < idxL L b := by
  obtain ⟨h1, h2, -⟩ := idxL_get ha
  obtain ⟨h3, h4, -⟩ := idxL_get hb
  have hp := labels_pair h
  rw [List.pairwise_map, List.pairwise_iff_getElem] at hp
  rcases Nat.lt_trichotomy (idxL L a) (idxL L b) with h5 | h5 | h5
  · exact h5
  · exfalso
    have : a = b := by rw [← h2, ← h4]; congr 1
    rw [this, lessL_irrefl] at hl
    cases hl
  · exfalso
    have := hp _ _ h3 h1 h5
    rw [h2, h4, ← Lib.toList_data, ← Lib.toList_data] at this
    have h6 := lessL_trans _ _ _ hl this
    rw [lessL_irrefl] at h6
    cases h6
theorem idxL_at {L : List ByteArray} (h : LabelsOk L) {k : Nat} (hk : k < L.length) : idxL L L[k] = k := by
  obtain ⟨h1, h2, -⟩ := idxL_get (List.getElem_mem hk)
  exact labels_inj h _ _ h1 hk (by rw [h2])

/-- The arcs of the net found. -/
def arcsOf (t : Lts) (st : DNet) : List Arc := st.edges.map (arcOf t)
theorem lab_get {t : Lts} {st : DNet} (hG : DGood t st) {e : Edge} (he : e ∈ st.edges) : ∃ h : e.lab.toNat < t.labels.length, labAt t e = t.labels[e.lab.toNat] ∧ (e.lab.toNat : Int) = e.lab := by
  have := hG.edges e he
  refine ⟨by omega, ?_, by omega⟩
  unfold labAt
  rw [List.getD_eq_getElem?_getD, List.getElem?_eq_getElem (by omega)]
  rfl
theorem edge_back {t : Lts} (hv : Valid t) {st : DNet} (hG : DGood t st) : (arcsOf t st).map (edgeIn t.labels) = st.edges := by
  unfold arcsOf
  rw [List.map_map]
  conv => rhs; rw [← List.map_id st.edges]
  apply List.map_congr_left
  intro e he
  obtain ⟨h1, h2, h3⟩ := lab_get hG he
  simp only [Function.comp, edgeIn, arcOf, id]
  rw [h2, idxL_at hv.labels h1, h3]
def Up (es : List Edge) : Prop := es.Pairwise fun a b => a.src < b.src ∨ (a.src = b.src ∧ a.lab < b.lab)
theorem up_at (t : Lts) (n : Nat) : Up (dAt t n).edges := (EdgesUp.at t n).1
theorem rise_up {es : List Edge} (h : Up es) : RiseE es := h.imp fun {a b} h => by rw [edgeLess_iff]; omega
theorem rise_in {t : Lts} (hv : Valid t) {st : DNet} (hG : DGood t st) (hu : Up st.edges) {L : List ByteArray} (hL : LabelsOk L) (hm : ∀ e ∈ st.edges, labAt t e ∈ L) : RiseE ((arcsOf t st).map (edgeIn L)) := by
  unfold arcsOf RiseE
  rw [List.map_map, List.pairwise_map]
  refine List.Pairwise.imp_of_mem ?_ hu
  intro a b ha hb h
  rw [edgeLess_iff]
  rcases h with h | ⟨h, h2⟩
  · exact .inl h
  · refine .inr ⟨h, .inl ?_⟩
    obtain ⟨a1, a2, a3⟩ := lab_get hG ha
    obtain ⟨b1, b2, b3⟩ := lab_get hG hb
    have hp := labels_pair hv.labels
    rw [List.pairwise_map, List.pairwise_iff_getElem] at hp
    have h3 := hp _ _ a1 b1 (by omega)
    rw [← a2, ← b2, ← Lib.toList_data, ← Lib.toList_data] at h3
    have := idxL_mono hL (hm a ha) (hm b hb) h3
    simp only [Function.comp, edgeIn, arcOf]
    omega

/-- The system by the labels in use. -/
def sysOf (t : Lts) (st : DNet) : Lts := ⟨st.rows.length, 0, labSet (tauT :: (arcsOf t st).map Arc.lab), (arcsOf t st).map (edgeIn (labSet (tauT :: (arcsOf t st).map Arc.lab)))⟩
theorem used_mem {t : Lts} {st : DNet} (hG : DGood t st) : ∀ l ∈ (arcsOf t st).map Arc.lab, l ∈ t.labels := by
  intro l hl
  unfold arcsOf at hl
  rw [List.map_map, List.mem_map] at hl
  obtain ⟨e, he, rfl⟩ := hl
  obtain ⟨h1, h2, -⟩ := lab_get hG he
  simp only [Function.comp, arcOf]
  rw [h2]
  exact List.getElem_mem _
theorem arc_mem {t : Lts} (hv : Valid t) {st : DNet} (hG : DGood t st) : ∀ a ∈ arcsOf t st, a.lab ∈ (sysOf t st).labels := fun a ha => ((used_is hv.labels (used_mem hG)).2 _).2 (List.mem_cons_of_mem _ (List.mem_map.2 ⟨a, ha, rfl⟩))
theorem sys_rise {t : Lts} (hv : Valid t) {st : DNet} (hG : DGood t st) (hu : Up st.edges) : RiseE (sysOf t st).edges :=
  rise_in hv hG hu (used_is hv.labels (used_mem hG)).1 fun e he => arc_mem hv hG _ (List.mem_map.2 ⟨e, he, rfl⟩)
theorem sys_edge {t : Lts} (hv : Valid t) {st : DNet} (hG : DGood t st) : ∀ i (h : i < (sysOf t st).edges.length), EdgeOk (sysOf t st) (sysOf t st).edges[i] := by
  intro i hi
  have hi' : i < st.edges.length := by simpa [sysOf, arcsOf] using hi
  have he := List.getElem_mem hi'
  have h1 := hG.edges _ he
  have h2 := arc_mem hv hG (arcOf t st.edges[i]) (List.mem_map.2 ⟨_, he, rfl⟩)
  obtain ⟨h3, -, -⟩ := idxL_get h2
  have h4 : (sysOf t st).edges[i] = ⟨st.edges[i].src, (idxL (sysOf t st).labels (labAt t st.edges[i]) : Nat), st.edges[i].dst⟩ := by simp [sysOf, arcsOf, edgeIn, arcOf]
  rw [h4]
  refine ⟨h1.1.1, h1.1.2, h1.2.2.1, h1.2.2.2, by show (0 : Int) ≤ ((idxL _ _ : Nat) : Int); omega, ?_⟩
  show ((idxL (sysOf t st).labels (labAt t st.edges[i]) : Nat) : Int) < _
  have h5 : idxL (sysOf t st).labels (labAt t st.edges[i]) < (sysOf t st).labels.length := h3
  omega
theorem sys_valid {t : Lts} (hv : Valid t) {st : DNet} (hG : DGood t st) (hu : Up st.edges) : Valid (sysOf t st) ↔ DSmall st := by
  have hel : (sysOf t st).edges.length = st.edges.length := by simp [sysOf, arcsOf]
  constructor
  · intro h
    refine ⟨?_, by have := h.most; omega⟩
    have := h.st1
    have h2 : (sysOf t st).states = (st.rows.length : Int) := rfl
    omega
  · rintro ⟨h1, h2⟩
    have h0 := hG.some
    refine ⟨by show (1 : Int) ≤ (st.rows.length : Int); omega, by show (st.rows.length : Int) ≤ 40; omega, Int.le_refl 0, by show (0 : Int) < (st.rows.length : Int); omega, (used_is hv.labels (used_mem hG)).1, by omega, sys_edge hv hG, fun i hi => ?_⟩
    exact List.pairwise_iff_getElem.1 (sys_rise hv hG hu) i (i + 1) (by omega) hi (by omega)
theorem sys_arcs {t : Lts} (hv : Valid t) {st : DNet} (hG : DGood t st) : (sysOf t st).edges.map (arcOf (sysOf t st)) = arcsOf t st := by
  show ((arcsOf t st).map _).map _ = _
  rw [List.map_map]
  conv => rhs; rw [← List.map_id (arcsOf t st)]
  apply List.map_congr_left
  intro a ha
  obtain ⟨h1, h2, -⟩ := idxL_get (arc_mem hv hG a ha)
  simp only [Function.comp, edgeIn, arcOf, id, labAt]
  rw [Int.toNat_natCast]
  have : (sysOf t st).labels.getD (idxL (sysOf t st).labels a.lab) ByteArray.empty = a.lab := by rw [List.getD_eq_getElem?_getD, List.getElem?_eq_getElem h1, Option.getD_some, h2]
  show Arc.mk a.src ((sysOf t st).labels.getD (idxL (sysOf t st).labels a.lab) ByteArray.empty) a.dst = a
  rw [this]

end Go.Proofs.YtpoleaekcjjedaaGreatDoor

namespace Go.Proofs.YtpoleaekcjjedaaGreatDoor
open Go Go.RowKit

/-- The visible labels of both. -/
def bothL (a b : Lts) : List ByteArray := labSet (tauT :: (a.labels ++ b.labels))
def labK (L : List ByteArray) (k : Nat) : ByteArray := L.getD (k + 1) ByteArray.empty
/-- Both systems take a label. -/
def goBoth (x y : Lts) (L : List ByteArray) (p : Int × Int) (k : Nat) : Int × Int := (goTo x p.1 (labK L k), goTo y p.2 (labK L k))
/-- The trace of a word. -/
def txtsOf (L : List ByteArray) (u : List Nat) : List ByteArray := u.reverse.map (labK L)
theorem txtsOf_cons (L : List ByteArray) (k : Nat) (u : List Nat) : txtsOf L (k :: u) = txtsOf L u ++ [labK L k] := by simp [txtsOf]
theorem goTo_neg {x : Lts} {q : Int} (h : q < 0) (l : ByteArray) : goTo x q l = -1 := by unfold goTo; rw [if_pos h]

/-- What both searches look for: a trace of b that is none of a; with 'both', one of a that is none of b too. -/
def apart (both : Bool) (p : Int × Int) : Prop := (p.1 < 0 ∧ 0 ≤ p.2) ∨ (both = true ∧ 0 ≤ p.1 ∧ p.2 < 0)
/-- The answer, the trace, the code. -/
def CmpIs (a b : Lts) (both : Bool) (r : Bool) (xs : List ByteArray) (code : Int) : Prop :=
  (¬ (Valid a ∧ Valid b) ∧ r = false ∧ xs = [] ∧ code = 1) ∨ ((Valid a ∧ Valid b) ∧ (DFull a ∨ DFull b) ∧ r = false ∧ xs = [] ∧ code = 5)
    ∨ ((Valid a ∧ Valid b) ∧ ∃ sa sb, DOk a sa ∧ DOk b sb ∧ code = 0 ∧ ((NoWord ((0 : Int), (0 : Int)) (goBoth (dSys a sa) (dSys b sb) (bothL a b)) ((bothL a b).length - 1) (apart both) ∧ r = true ∧ xs = [])
      ∨ ∃ u, Least ((0 : Int), (0 : Int)) (goBoth (dSys a sa) (dSys b sb) (bothL a b)) ((bothL a b).length - 1) (apart both) u ∧ r = false ∧ xs = txtsOf (bothL a b) u))
theorem CmpIs.unique {a b : Lts} {both r r' : Bool} {xs xs' : List ByteArray} {code code' : Int} (h : CmpIs a b both r xs code) (k : CmpIs a b both r' xs' code') : r = r' ∧ xs = xs' ∧ code = code' := by
  rcases h with ⟨h1, h2, h3, h4⟩ | ⟨h1, h2, h3, h4, h5⟩ | ⟨h1, sa, sb, h2, h3, h4, h5⟩ <;>
    rcases k with ⟨k1, k2, k3, k4⟩ | ⟨k1, k2, k3, k4, k5⟩ | ⟨k1, sa', sb', k2, k3, k4, k5⟩ <;>
    first
    | exact absurd k1 h1
    | exact absurd h1 k1
    | exact ⟨h2.trans k2.symm, h3.trans k3.symm, h4.trans k4.symm⟩
    | exact ⟨h3.trans k3.symm, h4.trans k4.symm, h5.trans k5.symm⟩
    | exact absurd k2 (fun e => e.elim h2.not_full h3.not_full)
    | exact absurd h2 (fun e => e.elim k2.not_full k3.not_full)
    | skip
  have e1 := h2.1.unique k2.1
  have e2 := h3.1.unique k3.1
  subst e1 e2
  refine ⟨?_, ?_, h4.trans k4.symm⟩ <;>
    rcases h5 with ⟨a1, a2, a3⟩ | ⟨u, a1, a2, a3⟩ <;> rcases k5 with ⟨b1, b2, b3⟩ | ⟨u', b1, b2, b3⟩ <;>
    first
    | exact a2.trans b2.symm
    | exact a3.trans b3.symm
    | exact (b1.some a1).elim
    | exact (a1.some b1).elim
    | (have := a1.unique b1; subst this; exact a3.trans b3.symm)

end Go.Proofs.YtpoleaekcjjedaaGreatDoor

namespace Go.Proofs.YtpoleaekcjjedaaGreatDoor
open Go Go.RowKit

set_option maxRecDepth 100000 in
set_option maxHeartbeats 1000000 in
theorem l00Has_any (lo : Nat) (v : Value) (xs : List Int) (n : Int) (w : World) (hv : SliceK 1 encI lo w v xs) : Calls Tryz.prog 196 #[v, .int .i64 n] w fun e w' => e = .returned (.bool (xs.contains n)) ∧ Below w.heap.size w w' := by
  obtain ⟨a, cap, rfl, hn, hcap, hrow⟩ := hv
  go_enter Tryz.func196, Tryz.ntmps196
  go_wp2
  go_loopw [5] (fun i wr => ∃ k : Nat, k ≤ xs.length ∧ i = .int .i64 k ∧ Below w.heap.size w wr ∧ ∀ j (h : j < xs.length), j < k → xs[j] ≠ n) (fun i _ => xs.length - (intOf i).toNat)
  case atStart => exact ⟨0, Nat.zero_le _, rfl, Below.refl _ _, fun _ _ h => by omega⟩
  case round =>
    obtain ⟨k, hk, rfl, hbl, hx⟩ := hrel
    have HX := Lib.hid hx
    have HBL := Lib.hid hbl
    have hsz := hbl.size
    clear hx
    by_cases hlt : k < xs.length
    · obtain ⟨b, o, rfl, -, hb, c⟩ := (hrow.below hbl).one hlt
      simp only [encI, List.getElem?_cons_zero] at c
      clear hrow hbl
      cases g : (xs[k] == n)
      · have HG : Hid (xs[k] ≠ n) := by unfold Hid; simpa using g
        go_wp2
        go_roundw
        case rel => exact ⟨k + 1, by omega, by go_num, HBL.out, fun j h h' => by
            by_cases e : j = k
            · subst e; exact HG.out
            · exact HX.out j h (by omega)⟩
        case measure => simp [intOf]; omega
      · have HG : Hid (xs.contains n = true) := by
          unfold Hid
          rw [List.contains_iff_mem]
          exact (eq_of_beq g) ▸ List.getElem_mem hlt
        go_wp2
        go_ret
        exact ⟨ret_bool HG.out.symm, HBL.out⟩
    · clear hrow hbl
      go_wp2
      go_ret
      refine ⟨ret_bool ?_, HBL.out⟩
      symm
      rw [Bool.eq_false_iff]
      intro h
      rw [List.contains_iff_mem] at h
      obtain ⟨j, hj, e⟩ := List.mem_iff_getElem.1 h
      exact HX.out j hj (by omega) e

set_option maxRecDepth 100000 in
set_option maxHeartbeats 1000000 in
theorem l00Same_any (lo lo2 : Nat) (v v2 : Value) (xs ys : List Int) (w : World) (hv : SliceK 1 encI lo w v xs) (hv2 : SliceK 1 encI lo2 w v2 ys) : Calls Tryz.prog 117 #[v, v2] w fun e w' => e = .returned (.bool (xs == ys)) ∧ Below w.heap.size w w' := by
  obtain ⟨a, cap, rfl, hn, hcap, hrow⟩ := hv
  obtain ⟨a2, cap2, rfl, hn2, hcap2, hrow2⟩ := hv2
  by_cases hl : xs.length = ys.length
  · have hl1 : ((xs.length : Int) == (ys.length : Int)) = true := by rw [beq_iff_eq]; omega
    have HL := Lib.hid hl
    rw [← hl] at hn2
    have hl2 : (ys.length : Int) = (xs.length : Int) := by omega
    clear hl
    go_enter Tryz.func117, Tryz.ntmps117
    go_wp2
    clear hl1
    go_loopw [5] (fun i wr => ∃ k : Nat, k ≤ xs.length ∧ i = .int .i64 k ∧ Below w.heap.size w wr ∧ ∀ j (h : j < xs.length) (h2 : j < ys.length), j < k → xs[j] = ys[j]) (fun i _ => xs.length - (intOf i).toNat)
    case atStart => exact ⟨0, Nat.zero_le _, rfl, Below.refl _ _, fun _ _ _ h => by omega⟩
    case round =>
      obtain ⟨k, hk, rfl, hbl, hx⟩ := hrel
      have HX := Lib.hid hx
      have HBL := Lib.hid hbl
      have hsz := hbl.size
      clear hx
      by_cases hlt : k < xs.length
      · have hlt2 : k < ys.length := by have := HL.out; omega
        obtain ⟨b, o, rfl, -, hb, c⟩ := (hrow.below hbl).one hlt
        obtain ⟨b2, o2, rfl, -, hb2, c2⟩ := (hrow2.below hbl).one hlt2
        simp only [encI, List.getElem?_cons_zero] at c c2
        have s1 := later_cell hb c
        have s2 := later_cell hb2 c2
        clear hrow hrow2 hbl c c2
        cases g : (xs[k] == ys[k])
        · have HG : Hid ((xs == ys) = false) := by
            unfold Hid
            rw [beq_eq_false_iff_ne] at g ⊢
            intro e
            subst e
            exact g rfl
          go_wp2
          refine wp_region_later (by kernel_rfl) (by kernel_rfl) ?_
          repeat (go_big_quiet_step ((fail)))
          refine wpQuiet_nil ?_
          intro _ hw9
          obtain ⟨nl, hw8⟩ := hw9
          subst hw8
          go_wp2
          go_ret
          exact ⟨ret_bool HG.out.symm, HBL.out.trans (nl.h.mono hsz)⟩
        · have HG : Hid (xs[k] = ys[k]) := eq_of_beq g
          go_wp2
          refine wp_region_later (by kernel_rfl) (by kernel_rfl) ?_
          repeat (go_big_quiet_step ((fail)))
          refine wpQuiet_nil ?_
          intro _ hw9
          obtain ⟨nl, hw8⟩ := hw9
          subst hw8
          go_wp2
          go_roundw
          case rel => exact ⟨k + 1, by omega, by go_num, HBL.out.trans (nl.h.mono hsz), fun j h h2 h' => by
              by_cases e : j = k
              · subst e; exact HG.out
              · exact HX.out j h h2 (by omega)⟩
          case measure => simp [intOf]; omega
      · clear hrow hrow2 hbl
        go_wp2
        go_ret
        refine ⟨ret_bool ?_, HBL.out⟩
        symm
        rw [beq_iff_eq]
        exact List.ext_getElem HL.out (fun j h1 h2 => HX.out j h1 h2 (by omega))
  · have hl1 : ((xs.length : Int) == (ys.length : Int)) = false := by rw [beq_eq_false_iff_ne]; omega
    have HG : Hid ((xs == ys) = false) := by
      unfold Hid
      rw [beq_eq_false_iff_ne]
      exact fun e => hl (by rw [e])
    clear hl hrow hrow2
    go_enter Tryz.func117, Tryz.ntmps117
    go_wp2
    go_ret
    exact ⟨ret_bool HG.out.symm, Below.refl _ _⟩

end Go.Proofs.YtpoleaekcjjedaaGreatDoor

namespace Go.Proofs.YtpoleaekcjjedaaGreatDoor
open Go Go.RowKit

theorem findIdx_hit {α : Type} {p : α → Bool} {l : List α} {k : Nat} (hk : k < l.length) (h1 : ∀ j (h : j < l.length), j < k → p l[j] = false) (h2 : p l[k] = true) : l.findIdx p = k := by
  rw [List.findIdx_eq hk]
  exact ⟨h2, fun j hj => h1 j (by omega) hj⟩
theorem findIdx_none {α : Type} {p : α → Bool} {l : List α} (h1 : ∀ j (h : j < l.length), p l[j] = false) : l.findIdx p = l.length := by
  rw [List.findIdx_eq_length]
  intro x hx
  obtain ⟨j, hj, rfl⟩ := List.mem_iff_getElem.1 hx
  exact h1 j hj

/-- The first place of a text among texts, or -1. -/
def textAt (ss : List ByteArray) (s : ByteArray) : Int := if ss.findIdx (fun t => t.toList == s.toList) < ss.length then (ss.findIdx (fun t => t.toList == s.toList) : Nat) else -1

set_option maxRecDepth 100000 in
set_option maxHeartbeats 1000000 in
theorem l11Find_any (lo : Nat) (v : Value) (ss : List ByteArray) (s : ByteArray) (w : World) (hv : SliceK 1 encS lo w v ss) : Calls Tryz.prog 133 #[v, .string s] w fun e w' => e = .returned (.int .i64 (textAt ss s)) ∧ Below w.heap.size w w' := by
  obtain ⟨a, cap, rfl, hn, hcap, hrow⟩ := hv
  go_enter Tryz.func133, Tryz.ntmps133
  go_wp2
  go_loopw [5] (fun i wr => ∃ k : Nat, k ≤ ss.length ∧ i = .int .i64 k ∧ Below w.heap.size w wr ∧ ∀ j (h : j < ss.length), j < k → (ss[j].toList == s.toList) = false) (fun i _ => ss.length - (intOf i).toNat)
  case atStart => exact ⟨0, Nat.zero_le _, rfl, Below.refl _ _, fun _ _ h => by omega⟩
  case round =>
    obtain ⟨k, hk, rfl, hbl, hx⟩ := hrel
    have HX := Lib.hid hx
    have HBL := Lib.hid hbl
    have hsz := hbl.size
    clear hx
    by_cases hlt : k < ss.length
    · obtain ⟨b, o, rfl, -, hb, c⟩ := (hrow.below hbl).one hlt
      simp only [encS, List.getElem?_cons_zero] at c
      clear hrow hbl
      cases g : (ss[k].toList == s.toList)
      · have HG := Lib.hid g
        go_wp2
        go_roundw
        case rel => exact ⟨k + 1, by omega, by go_num, HBL.out, fun j h h' => by
            by_cases e : j = k
            · subst e; exact HG.out
            · exact HX.out j h (by omega)⟩
        case measure => simp [intOf]; omega
      · have HG : Hid (textAt ss s = (k : Int)) := by
          unfold Hid textAt
          rw [findIdx_hit hlt HX.out g, if_pos hlt]
        go_wp2
        go_ret
        exact ⟨ret_int HG.out.symm, HBL.out⟩
    · clear hrow hbl
      go_wp2
      go_ret
      refine ⟨ret_int ?_, HBL.out⟩
      unfold textAt
      rw [findIdx_none (fun j h => HX.out j h (by omega)), if_neg (by omega)]

theorem textAt_some {ss : List ByteArray} {s : ByteArray} (h : ¬ textAt ss s < 0) : ∃ n : Nat, textAt ss s = n ∧ ∃ hn : n < ss.length, ss[n].toList = s.toList := by
  unfold textAt at h ⊢
  by_cases hlt : ss.findIdx (fun t => t.toList == s.toList) < ss.length
  · rw [if_pos hlt]
    refine ⟨_, rfl, hlt, ?_⟩
    have := List.findIdx_getElem (p := fun t : ByteArray => t.toList == s.toList) (xs := ss) (w := hlt)
    exact eq_of_beq this
  · rw [if_neg hlt] at h
    omega
theorem textAt_neg {ss : List ByteArray} {s : ByteArray} : textAt ss s < 0 ↔ (ss.any fun t => t.toList == s.toList) = false := by
  unfold textAt
  by_cases hlt : ss.findIdx (fun t => t.toList == s.toList) < ss.length
  · rw [if_pos hlt]
    have h1 := List.findIdx_lt_length.1 hlt
    constructor
    · intro h; omega
    · intro h
      rw [List.any_eq_false] at h
      obtain ⟨x, hx, hp⟩ := h1
      exact absurd hp (h x hx)
  · rw [if_neg hlt]
    refine ⟨fun _ => ?_, fun _ => by omega⟩
    rw [List.any_eq_false]
    intro x hx hp
    exact hlt (List.findIdx_lt_length.2 ⟨x, hx, hp⟩)


end Go.Proofs.YtpoleaekcjjedaaGreatDoor

namespace Go.Proofs.YtpoleaekcjjedaaGreatDoor
open Go Go.RowKit

theorem labSet_is (ls : List ByteArray) : ((labSet ls).map (·.data.toList)).Pairwise (fun a b => lessL a b = true) ∧ ∀ x, x ∈ labSet ls ↔ x ∈ ls := by
  have hs : ((ls.map (·.data.toList)).mergeSort fun x y => !lessL y x).Pairwise fun a b => a = b ∨ lessL a b = true := by
    have h1 := List.pairwise_mergeSort (le := fun x y : List UInt8 => !lessL y x) (fun a b c h1 h2 => by
      simp only [Bool.not_eq_true'] at *
      have := (swo_of_total lessL_irrefl lessL_trans lessL_tri).ntrans c b a h2 h1
      exact this) (fun a b => by
      cases h : lessL b a with
      | false => simp
      | true =>
        cases h2 : lessL a b with
        | false => simp
        | true => have := lessL_trans a b a h2 h; rw [lessL_irrefl] at this; cases this) (ls.map (·.data.toList))
    refine h1.imp fun {a b} h => ?_
    simp only [Bool.not_eq_true'] at h
    cases h2 : lessL a b with
    | true => exact .inr rfl
    | false => exact .inl (lessL_tri a b h2 h)
  obtain ⟨h1, h2⟩ := compact_is (fun a b : List UInt8 => lessL a b = true) lessL_trans _ hs
  have hm : (labSet ls).map (·.data.toList) = Lib.compact ((ls.map (·.data.toList)).mergeSort fun x y => !lessL y x) := by
    unfold labSet
    rw [List.map_map]
    conv => rhs; rw [← List.map_id (Lib.compact ((ls.map (·.data.toList)).mergeSort fun x y => !lessL y x))]
    apply List.map_congr_left
    intro x _
    simp [mkB]
  refine ⟨by rw [hm]; exact h1, fun x => ?_⟩
  have h3 : x ∈ labSet ls ↔ x.data.toList ∈ (labSet ls).map (·.data.toList) := by
    rw [List.mem_map]
    exact ⟨fun h => ⟨x, h, rfl⟩, fun ⟨y, hy, e⟩ => (data_inj e) ▸ hy⟩
  rw [h3, hm, h2, List.mem_mergeSort, List.mem_map]
  exact ⟨fun ⟨y, hy, e⟩ => (data_inj e) ▸ hy, fun h => ⟨x, h, rfl⟩⟩

/-- A list of labels in order, tau first. -/
structure InOrd (L : List ByteArray) : Prop where
  first : L[0]? = some tauT
  asc : (L.map (·.data.toList)).Pairwise fun a b => lessL a b = true
theorem InOrd.set (us : List ByteArray) : InOrd (labSet (tauT :: us)) := by
  obtain ⟨h1, h2⟩ := labSet_is (tauT :: us)
  refine ⟨?_, h1⟩
  have hm := (h2 tauT).2 (by simp)
  obtain ⟨i, hi, he⟩ := List.mem_iff_getElem.1 hm
  rcases Nat.eq_zero_or_pos i with h | h
  · subst h; rw [List.getElem?_eq_getElem hi, he]
  · have h3 := h1
    rw [List.pairwise_map, List.pairwise_iff_getElem] at h3
    have h4 := h3 0 i (by omega) hi h
    rw [he, lessL_iff] at h4
    rcases h4.2 with h5 | h5
    · exact absurd (h5.trans (by rw [← Lib.toList_data, tauT_list])) h4.1
    · exact absurd (by rw [← Lib.toList_data, tauT_list]) h5.1
theorem InOrd.less {L : List ByteArray} (h : InOrd L) {i j : Nat} (hij : i < j) (hj : j < L.length) : lessL (L[i]'(by omega)).data.toList L[j].data.toList = true := by
  have := h.asc
  rw [List.pairwise_map, List.pairwise_iff_getElem] at this
  exact this i j (by omega) hj hij
theorem InOrd.pos {L : List ByteArray} (h : InOrd L) : 0 < L.length := (List.getElem?_eq_some_iff.1 h.first).1
theorem InOrd.notau {L : List ByteArray} (h : InOrd L) {j : Nat} (h1 : 1 ≤ j) (hj : j < L.length) : L[j].data.toList ≠ tauB := by
  have h2 := h.less (show 0 < j by omega) hj
  obtain ⟨h0, e⟩ := List.getElem?_eq_some_iff.1 h.first
  rw [e, lessL_iff] at h2
  intro e2
  exact h2.1 (by rw [e2, ← Lib.toList_data, tauT_list])
/-- A text that is not there is put to its place. -/
theorem InOrd.put {us L : List ByteArray} {x : ByteArray} {k : Nat} (hL : L = labSet (tauT :: us)) (hx : ∀ y ∈ L, y.toList ≠ x.toList) (h1 : 1 ≤ k) (hk : k ≤ L.length) (hlo : ∀ j (h : j < L.length), 1 ≤ j → j < k → strLess L[j] x = true) (hhi : ∀ h : k < L.length, strLess L[k] x = false) :
    L.take k ++ x :: L.drop k = labSet (tauT :: (us ++ [x])) := by
  have hO : InOrd L := by rw [hL]; exact InOrd.set us
  obtain ⟨-, hm⟩ := labSet_is (tauT :: us)
  rw [← hL] at hm
  have hxt : x.data.toList ≠ tauB := by
    intro e
    have h0 := hO.pos
    obtain ⟨h3, e3⟩ := List.getElem?_eq_some_iff.1 hO.first
    refine hx L[0] (List.getElem_mem _) ?_
    rw [e3, tauT_list, Lib.toList_data, e]
  have hlt : ∀ j (h : j < L.length), j < k → lessL L[j].data.toList x.data.toList = true := by
    intro j hj hjk
    rw [lessL_iff]
    have hne : L[j].data.toList ≠ x.data.toList := fun e => hx L[j] (List.getElem_mem _) (by rw [Lib.toList_data, Lib.toList_data, e])
    refine ⟨hne, ?_⟩
    rcases Nat.eq_zero_or_pos j with h | h
    · subst h
      obtain ⟨h3, e3⟩ := List.getElem?_eq_some_iff.1 hO.first
      exact .inl (by rw [e3, ← Lib.toList_data, tauT_list])
    · have h2 := hlo j hj h hjk
      unfold strLess at h2
      rw [less_lt, decide_eq_true_eq, Lib.toList_data, Lib.toList_data] at h2
      exact .inr ⟨hxt, h2⟩
  have hgt : ∀ j (h : j < L.length), k ≤ j → lessL x.data.toList L[j].data.toList = true := by
    have hk0 : ∀ h : k < L.length, lessL x.data.toList L[k].data.toList = true := by
      intro h
      have h2 := hhi h
      have hne : x.data.toList ≠ L[k].data.toList := fun e => hx L[k] (List.getElem_mem _) (by rw [Lib.toList_data, Lib.toList_data, e])
      cases h3 : lessL x.data.toList L[k].data.toList with
      | true => rfl
      | false =>
        exfalso
        have h4 : lessL L[k].data.toList x.data.toList = true := by
          cases h5 : lessL L[k].data.toList x.data.toList with
          | true => rfl
          | false => exact absurd (lessL_tri _ _ h3 h5) hne
        rw [lessL_iff] at h4
        rcases h4.2 with h5 | h5
        · exact hO.notau h1 h h5
        · unfold strLess at h2
          rw [less_lt, decide_eq_false_iff_not, Lib.toList_data, Lib.toList_data] at h2
          exact h2 h5.2
    intro j hj hkj
    rcases Nat.eq_or_lt_of_le hkj with e | h
    · subst e; exact hk0 hj
    · exact lessL_trans _ _ _ (hk0 (by omega)) (hO.less h hj)
  refine (labSet_eq ?_ fun y => ?_).symm
  · rw [List.map_append, List.map_cons, List.pairwise_append]
    have ha := hO.asc
    refine ⟨?_, ?_, ?_⟩
    · rw [List.map_take]; exact ha.sublist (List.take_sublist _ _)
    · rw [List.pairwise_cons]
      refine ⟨fun y hy => ?_, by rw [List.map_drop]; exact ha.sublist (List.drop_sublist _ _)⟩
      obtain ⟨z, hz, rfl⟩ := List.mem_map.1 hy
      obtain ⟨i, hi, rfl⟩ := List.mem_iff_getElem.1 hz
      rw [List.getElem_drop]
      exact hgt _ _ (by omega)
    · intro y hy z hz
      obtain ⟨y2, hy2, rfl⟩ := List.mem_map.1 hy
      obtain ⟨i, hi, rfl⟩ := List.mem_iff_getElem.1 hy2
      rw [List.length_take] at hi
      rw [List.getElem_take]
      rcases List.mem_cons.1 hz with rfl | hz
      · exact hlt _ _ (by omega)
      · obtain ⟨z2, hz2, rfl⟩ := List.mem_map.1 hz
        obtain ⟨j, hj, rfl⟩ := List.mem_iff_getElem.1 hz2
        rw [List.getElem_drop]
        exact hO.less (by omega) _
  · have h5 : y ∈ L.take k ++ x :: L.drop k ↔ y ∈ L ∨ y = x := by
      rw [List.mem_append, List.mem_cons]
      conv => rhs; rw [← List.take_append_drop k L, List.mem_append]
      constructor
      · rintro (h | h | h)
        · exact .inl (.inl h)
        · exact .inr h
        · exact .inl (.inr h)
      · rintro ((h | h) | h)
        · exact .inl h
        · exact .inr (.inr h)
        · exact .inr (.inl h)
    rw [h5, hm]
    simp only [List.mem_cons, List.mem_append, List.not_mem_nil, or_false]
    constructor
    · rintro (h | h | h)
      · exact .inl (.inl h)
      · exact .inl (.inr h)
      · exact .inr h
    · rintro ((h | h) | h)
      · exact .inl h
      · exact .inr (.inl h)
      · exact .inr (.inr h)
theorem InOrd.same {us L : List ByteArray} {x : ByteArray} (hL : L = labSet (tauT :: us)) (hx : x ∈ L) : L = labSet (tauT :: (us ++ [x])) := by
  have hO : InOrd L := by rw [hL]; exact InOrd.set us
  obtain ⟨-, hm⟩ := labSet_is (tauT :: us)
  rw [← hL] at hm
  refine (labSet_eq hO.asc fun y => ?_).symm
  rw [hm]
  have := (hm x).1 hx
  simp only [List.mem_cons, List.mem_append, List.not_mem_nil, or_false] at this ⊢
  constructor
  · rintro (h | h | h)
    · exact .inl h
    · exact .inr h
    · subst h; exact this
  · rintro (h | h)
    · exact .inl h
    · exact .inr (.inl h)
/-- While the tail is moved up: a junk text at the place k. -/
def shiftAt (L : List ByteArray) (j : ByteArray) (k : Nat) : List ByteArray := L.take k ++ j :: L.drop k
theorem shiftAt_len {L : List ByteArray} (j : ByteArray) (k : Nat) : (shiftAt L j k).length = L.length + 1 := by
  unfold shiftAt
  rw [List.length_append, List.length_cons, ← Nat.add_assoc, ← List.length_append, List.take_append_drop]
theorem shiftAt_end (L : List ByteArray) (j : ByteArray) : L ++ [j] = shiftAt L j L.length := by simp [shiftAt]
theorem shiftAt_get {L : List ByteArray} {j : ByteArray} {k : Nat} (h1 : 1 ≤ k) (hk : k ≤ L.length) : (shiftAt L j k)[k - 1]? = some (L[k - 1]'(by omega)) := by
  unfold shiftAt
  rw [List.getElem?_append_left (by rw [List.length_take]; omega), List.getElem?_take, if_pos (by omega), List.getElem?_eq_getElem (by omega)]
theorem shiftAt_set {L : List ByteArray} {j : ByteArray} {k : Nat} (h1 : 1 ≤ k) (hk : k ≤ L.length) : (shiftAt L j k).set k (L[k - 1]'(by omega)) = shiftAt L (L[k - 1]'(by omega)) (k - 1) := by
  unfold shiftAt
  have hl : (L.take k).length = k := by rw [List.length_take]; omega
  rw [List.set_append_right _ _ (by omega), hl, Nat.sub_self, List.set_cons_zero]
  have h2 : L.take k = L.take (k - 1) ++ [L[k - 1]'(by omega)] := by
    have := List.take_succ_eq_append_getElem (l := L) (i := k - 1) (by omega)
    rw [show k - 1 + 1 = k from by omega] at this
    exact this
  have h3 : L.drop (k - 1) = L[k - 1]'(by omega) :: L.drop k := by
    have := List.drop_eq_getElem_cons (l := L) (i := k - 1) (by omega)
    rw [show k - 1 + 1 = k from by omega] at this
    exact this
  rw [h2, h3, List.append_assoc]
  rfl
theorem shiftAt_put {L : List ByteArray} {j x : ByteArray} {k : Nat} (hk : k ≤ L.length) : (shiftAt L j k).set k x = L.take k ++ x :: L.drop k := by
  unfold shiftAt
  have hl : (L.take k).length = k := by rw [List.length_take]; omega
  rw [List.set_append_right _ _ (by omega), hl, Nat.sub_self, List.set_cons_zero]

theorem info_strJ : (Tryz.prog.info? 9).map (fun i => (i.zero, i.size, i.bytes)) = some (some (.string ⟨#[]⟩), 1, 16) := by kernel_rfl
theorem tau_one : labSet [tauT] = [tauT] := by
  refine labSet_eq (by simp) fun x => Iff.rfl

end Go.Proofs.YtpoleaekcjjedaaGreatDoor

namespace Go.Proofs.YtpoleaekcjjedaaGreatDoor
open Go Go.RowKit

theorem dok_good {t : Lts} {st : DNet} (hv : Valid t) (h : DOk t st) : DGood t st := by
  obtain ⟨⟨n, -, rfl, -⟩, -⟩ := h
  exact DGood.at hv n
theorem dok_up {t : Lts} {st : DNet} (h : DOk t st) : Up st.edges := by
  obtain ⟨⟨n, -, rfl, -⟩, -⟩ := h
  exact up_at t n
theorem dSys_edge {t : Lts} {st : DNet} (hG : DGood t st) : ∀ i (h : i < (dSys t st).edges.length), EdgeOk (dSys t st) (dSys t st).edges[i] := by
  intro i hi
  have := hG.edges _ (List.getElem_mem hi)
  exact ⟨this.1.1, this.1.2, this.2.2.1, this.2.2.2, Int.le_trans (by decide) this.2.1.1, this.2.1.2⟩
theorem dSys_valid {t : Lts} {st : DNet} (hv : Valid t) (h : DOk t st) : Valid (dSys t st) := by
  have hG := dok_good hv h
  have hu := dok_up h
  have h0 := hG.some
  have hs := h.2
  refine ⟨by show (1 : Int) ≤ (st.rows.length : Int); omega, by show (st.rows.length : Int) ≤ 40; have := hs.1; omega, Int.le_refl 0, by show (0 : Int) < (st.rows.length : Int); omega, hv.labels, hs.2, dSys_edge hG, fun i hi => ?_⟩
  have h1 := List.pairwise_iff_getElem.1 (rise_up hu) i (i + 1) (Nat.lt_of_succ_lt hi) hi (Nat.lt_succ_self i)
  exact h1
theorem dSys_single {t : Lts} {st : DNet} (hv : Valid t) (h : DOk t st) : Single (dSys t st) := by
  have hG := dok_good hv h
  have hu := dok_up h
  have h1 : ∀ i (hi : i < st.edges.length), st.edges[i].lab ≠ 0 := fun i hi => by
    have := (hG.edges _ (List.getElem_mem hi)).2.1.1
    omega
  have h2 : ∀ i (hi : i + 1 < st.edges.length), ¬ (st.edges[i + 1].src = st.edges[i].src ∧ st.edges[i + 1].lab = st.edges[i].lab) := fun i hi => by
    have := List.pairwise_iff_getElem.1 hu i (i + 1) (Nat.lt_of_succ_lt hi) hi (Nat.lt_succ_self i)
    omega
  exact ⟨h1, h2⟩

end Go.Proofs.YtpoleaekcjjedaaGreatDoor

namespace Go.Proofs.YtpoleaekcjjedaaGreatDoor
open Go Go.RowKit

/-- What the reference passes over. -/
def deadP (both : Bool) (p : Int × Int) : Prop := p.2 < 0 ∧ (both = true → p.1 < 0)
theorem deadP_step (both : Bool) (x y : Lts) (L : List ByteArray) (s : Int × Int) (a : Nat) (h : deadP both s) : deadP both (goBoth x y L s a) := by
  refine ⟨?_, fun hb => ?_⟩
  · show goTo y s.2 _ < 0
    rw [goTo_neg h.1]; decide
  · show goTo x s.1 _ < 0
    rw [goTo_neg (h.2 hb)]; decide
theorem deadP_not (both : Bool) (s : Int × Int) (h : deadP both s) : ¬ apart both s := by
  rintro (⟨h1, h2⟩ | ⟨h1, h2, h3⟩)
  · have := h.1; omega
  · have := h.2 h1; omega
theorem in_both {both : Bool} {p : Int × Int} (h1 : ¬ deadP both p) (h2 : ¬ apart both p) : 0 ≤ p.1 ∧ 0 ≤ p.2 := by
  unfold deadP at h1
  unfold apart at h2
  cases both <;> simp only [Bool.false_eq_true, false_and, or_false, true_and, true_implies, false_implies, and_true] at h1 h2 <;> omega
def difS (x y : Lts) (L : List ByteArray) (u : List Nat) : Int × Int := wAt ((0 : Int), (0 : Int)) (goBoth x y L) u
theorem difS_cons (x y : Lts) (L : List ByteArray) (k : Nat) (u : List Nat) : difS x y L (k :: u) = (goTo x (difS x y L u).1 (labK L k), goTo y (difS x y L u).2 (labK L k)) := rfl
theorem difS_range {x y : Lts} (hx : Valid x) (hy : Valid y) (L : List ByteArray) : ∀ u, ((difS x y L u).1 < x.states ∧ -1 ≤ (difS x y L u).1) ∧ (difS x y L u).2 < y.states ∧ -1 ≤ (difS x y L u).2
  | [] => by have := hx.st0; have := hy.st0; exact ⟨⟨by show (0 : Int) < _; omega, by show (-1 : Int) ≤ 0; decide⟩, by show (0 : Int) < _; omega, by show (-1 : Int) ≤ 0; decide⟩
  | k :: u => by
    rw [difS_cons]
    have h1 := goTo_range hx (difS x y L u).1 (labK L k)
    have h2 := goTo_range hy (difS x y L u).2 (labK L k)
    exact ⟨⟨h1.2, h1.1⟩, h2.2, h2.1⟩
theorem NSt.few {x y : Lts} {L : List ByteArray} {m : Nat} {both : Bool} {N : List (List Nat)} {i k : Nat} (hx : Valid x) (hy : Valid y) (h : NSt ((0 : Int), (0 : Int)) (goBoth x y L) m (deadP both) (apart both) N i k) : N.length ≤ 1600 := by
  have hp : ∀ u ∈ N, (0 ≤ (difS x y L u).1 ∧ (difS x y L u).1 < 40) ∧ 0 ≤ (difS x y L u).2 ∧ (difS x y L u).2 < 40 := fun u hu => by
    have h1 := in_both (h.alive u hu) (h.noF u hu)
    have h2 := difS_range hx hy L u
    have h3 := hx.st1
    have h4 := hy.st1
    exact ⟨⟨h1.1, by omega⟩, h1.2, by omega⟩
  have h1 : (N.map fun u => ((difS x y L u).1 * 40 + (difS x y L u).2).toNat).Nodup := by
    have hn := h.nodup
    rw [List.nodup_iff_pairwise_ne, List.pairwise_map] at hn ⊢
    refine List.Pairwise.imp_of_mem ?_ hn
    intro a b ha hb hne e
    have h1 := hp a ha
    have h2 := hp b hb
    refine hne ?_
    show difS x y L a = difS x y L b
    have e1 : (difS x y L a).1 = (difS x y L b).1 := by omega
    have e2 : (difS x y L a).2 = (difS x y L b).2 := by omega
    exact Prod.ext e1 e2
  have := nodup_lt 1600 _ h1 (fun z hz => by
    obtain ⟨u, hu, rfl⟩ := List.mem_map.1 hz
    have := hp u hu
    omega)
  rwa [List.length_map] at this

/-- How a word leads back: the word ahead of it, its last letter's label. -/
def BackOk (L : List ByteArray) (N : List (List Nat)) (bs : List Int) (ys : List ByteArray) : Prop :=
  bs.length = N.length ∧ ys.length = N.length ∧ ∀ j u, N[j]? = some u → 0 < j → ∃ a v p, u = a :: v ∧ p < j ∧ N[p]? = some v ∧ bs[j]? = some ((p : Nat) : Int) ∧ ys[j]? = some (labK L a)
theorem BackOk.one (L : List ByteArray) : BackOk L [[]] [-1] [⟨#[]⟩] := ⟨rfl, rfl, fun j u h hj => by have := (List.getElem?_eq_some_iff.1 h).1; simp at this; omega⟩
theorem BackOk.push {L : List ByteArray} {N : List (List Nat)} {bs : List Int} {ys : List ByteArray} (h : BackOk L N bs ys) {i k : Nat} {u : List Nat} (hu : N[i]? = some u) : BackOk L (N ++ [k :: u]) (bs ++ [(i : Int)]) (ys ++ [labK L k]) := by
  obtain ⟨h1, h2, h3⟩ := h
  have hi := (List.getElem?_eq_some_iff.1 hu).1
  refine ⟨by simp [h1], by simp [h2], fun j x hx hj => ?_⟩
  by_cases hc : j < N.length
  · rw [List.getElem?_append_left hc] at hx
    obtain ⟨a, v, p, e1, e2, e3, e4, e5⟩ := h3 j x hx hj
    exact ⟨a, v, p, e1, e2, by rw [List.getElem?_append_left (by omega)]; exact e3, by rw [List.getElem?_append_left (by omega)]; exact e4, by rw [List.getElem?_append_left (by omega)]; exact e5⟩
  · have hj2 : j = N.length := by
      have := (List.getElem?_eq_some_iff.1 hx).1
      simp at this
      omega
    subst hj2
    rw [List.getElem?_concat_length] at hx
    cases hx
    exact ⟨k, u, i, rfl, hi, by rw [List.getElem?_append_left hi]; exact hu, by rw [← h1, List.getElem?_concat_length], by rw [← h2, List.getElem?_concat_length]⟩

/-- The four slices of the reference's search. -/
structure OwnD (B : Nat) (w : World) (vl vr vb vy : Value) (ls rs bs : List Int) (ys : List ByteArray) : Prop where
  left : w.ownsRow B 2 1 vl ls.length (ls.map (Value.int .i64))
  right : w.ownsRow B 2 1 vr rs.length (rs.map (Value.int .i64))
  before : w.ownsRow B 3 1 vb bs.length (bs.map (Value.int .i64))
  by_ : w.ownsRow B 9 1 vy ys.length (ys.map .string)
  far : vl.ownBlock = none ∨ vl.ownBlock ≠ vr.ownBlock
  far2 : vr.ownBlock = none ∨ vr.ownBlock ≠ vl.ownBlock
theorem OwnD.below {B : Nat} {w w' : World} {vl vr vb vy : Value} {ls rs bs : List Int} {ys : List ByteArray} (h : OwnD B w vl vr vb vy ls rs bs ys) (hb : Below w.heap.size w w') : OwnD B w' vl vr vb vy ls rs bs ys :=
  ⟨owns_below h.left hb, owns_below h.right hb, owns_below h.before hb, owns_below h.by_ hb, h.far, h.far2⟩
theorem OwnD.pushL {B : Nat} {w w1 : World} {o : Obj} {vl vl' vr vb vy : Value} {ls rs bs : List Int} {ys : List ByteArray} {x : Int} (h : OwnD B w vl vr vb vy ls rs bs ys) (hg : (w.alloc o).grownBy w1 vl.ownBlock)
    (ho : w1.ownsRow B 2 1 vl' (ls.length + 1) (ls.map (Value.int .i64) ++ [.int .i64 x])) (ha : vl'.ownBlock = vl.ownBlock ∨ vl'.ownBlock = some (w.alloc o).heap.size) : OwnD B w1 vl' vr vb vy (ls ++ [x]) rs bs ys := by
  have hA := h.below (w' := w.alloc o) ((Below.refl _ _).alloc (Nat.le_refl _) _)
  have hr : ∀ b, vr.ownBlock = some b → b ≠ (w.alloc o).heap.size := fun b e => by have := (hA.right.lt b e).2; omega
  have k1 : vr.ownBlock = none ∨ vr.ownBlock ≠ vl'.ownBlock := by
    cases hv : vr.ownBlock with
    | none => exact .inl rfl
    | some b =>
      refine .inr fun e => ?_
      rcases ha with ha | ha
      · rcases h.far2 with h0 | h0
        · rw [hv] at h0; cases h0
        · exact h0 (by rw [hv, e, ha])
      · rw [ha] at e; cases e; exact hr _ hv rfl
  have k2 : vl'.ownBlock = none ∨ vl'.ownBlock ≠ vr.ownBlock := by
    rcases k1 with k | k
    · cases hv : vl'.ownBlock with
      | none => exact .inl rfl
      | some b => exact .inr (by rw [k]; simp)
    · exact .inr fun e => k e.symm
  exact ⟨by simpa using ho, hA.right.kept hg hA.far2, hA.before.kept hg (own_types hA.before hA.left (by decide)), hA.by_.kept hg (own_types hA.by_ hA.left (by decide)), k2, k1⟩
theorem OwnD.swap {B : Nat} {w : World} {vl vr vb vy : Value} {ls rs bs : List Int} {ys : List ByteArray} (h : OwnD B w vl vr vb vy ls rs bs ys) : OwnD B w vr vl vb vy rs ls bs ys := ⟨h.right, h.left, h.before, h.by_, h.far2, h.far⟩
theorem OwnD.pushR {B : Nat} {w w1 : World} {o : Obj} {vl vr' vr vb vy : Value} {ls rs bs : List Int} {ys : List ByteArray} {x : Int} (h : OwnD B w vl vr vb vy ls rs bs ys) (hg : (w.alloc o).grownBy w1 vr.ownBlock)
    (ho : w1.ownsRow B 2 1 vr' (rs.length + 1) (rs.map (Value.int .i64) ++ [.int .i64 x])) (ha : vr'.ownBlock = vr.ownBlock ∨ vr'.ownBlock = some (w.alloc o).heap.size) : OwnD B w1 vl vr' vb vy ls (rs ++ [x]) bs ys :=
  (h.swap.pushL hg ho ha).swap
theorem OwnD.pushB {B : Nat} {w w1 : World} {o : Obj} {vl vr vb vb' vy : Value} {ls rs bs : List Int} {ys : List ByteArray} {x : Int} (h : OwnD B w vl vr vb vy ls rs bs ys) (hg : (w.alloc o).grownBy w1 vb.ownBlock)
    (ho : w1.ownsRow B 3 1 vb' (bs.length + 1) (bs.map (Value.int .i64) ++ [.int .i64 x])) : OwnD B w1 vl vr vb' vy ls rs (bs ++ [x]) ys := by
  have hA := h.below (w' := w.alloc o) ((Below.refl _ _).alloc (Nat.le_refl _) _)
  exact ⟨hA.left.kept hg (own_types hA.left hA.before (by decide)), hA.right.kept hg (own_types hA.right hA.before (by decide)), by simpa using ho, hA.by_.kept hg (own_types hA.by_ hA.before (by decide)), h.far, h.far2⟩
theorem OwnD.pushY {B : Nat} {w w1 : World} {o : Obj} {vl vr vb vy vy' : Value} {ls rs bs : List Int} {ys : List ByteArray} {x : ByteArray} (h : OwnD B w vl vr vb vy ls rs bs ys) (hg : (w.alloc o).grownBy w1 vy.ownBlock)
    (ho : w1.ownsRow B 9 1 vy' (ys.length + 1) (ys.map .string ++ [.string x])) : OwnD B w1 vl vr vb vy' ls rs bs (ys ++ [x]) := by
  have hA := h.below (w' := w.alloc o) ((Below.refl _ _).alloc (Nat.le_refl _) _)
  exact ⟨hA.left.kept hg (own_types hA.left hA.by_ (by decide)), hA.right.kept hg (own_types hA.right hA.by_ (by decide)), hA.before.kept hg (own_types hA.before hA.by_ (by decide)), by simpa using ho, h.far, h.far2⟩

end Go.Proofs.YtpoleaekcjjedaaGreatDoor
