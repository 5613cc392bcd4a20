/-
  The edges found stand in ascending order of where they begin and of their labels.
  Plain laws for lts within determinize: the labels in use, the edges by them, that they lead back.
-/
import Derived.Test.YtbbffbnfppbibaaGreatDoorCx9
import Derived.Test.YtbbffbnfppbibaaGreatDoorCx16
import Derived.Test.YtbbffbnfppbibaaGreatDoorCx10
import Derived.Test.YtbbffbnfppbibaaGreatDoorCx5
namespace Go.Proofs.YtbbffbnfppbibaaGreatDoor
open Go Go.RowKit

/-- Ascending, and no edge behind the label number j of the row n. -/
def EdgesUp (n j : Int) (es : List Edge) : Prop := es.Pairwise (fun a b => a.src < b.src ∨ (a.src = b.src ∧ a.lab < b.lab)) ∧ ∀ e ∈ es, e.src < n ∨ (e.src = n ∧ e.lab ≤ j)
theorem EdgesUp.step {t : Lts} {i k : Nat} {cur : List Int} {st : DNet} (h : EdgesUp i k st.edges) : EdgesUp i ((k : Int) + 1) (dstep t i cur st k).edges := by
  unfold dstep
  split
  · exact ⟨h.1, fun e he => by rcases h.2 e he with h | h <;> omega⟩
  · refine ⟨?_, fun e he => ?_⟩
    · show (st.edges ++ [_]).Pairwise _
      rw [List.pairwise_append]
      refine ⟨h.1, by simp, fun a ha b hb => ?_⟩
      rw [List.mem_singleton] at hb
      subst hb
      rcases h.2 a ha with h | h
      · exact .inl h
      · exact .inr ⟨h.1, by show a.lab < (k : Int) + 1; omega⟩
    · rcases List.mem_append.1 he with he | he
      · rcases h.2 e he with h | h <;> omega
      · rw [List.mem_singleton] at he
        subst he
        exact .inr ⟨rfl, Int.le_refl _⟩
theorem EdgesUp.mid {t : Lts} {i : Nat} {cur : List Int} {st : DNet} (h : EdgesUp i 0 st.edges) : ∀ j : Nat, EdgesUp i j (dmid t i cur st j).edges
  | 0 => by rw [dmid_zero]; exact h
  | j + 1 => by
    rw [dmid_succ]
    exact (EdgesUp.mid h j).step
theorem EdgesUp.at (t : Lts) : ∀ n : Nat, EdgesUp n 0 (dAt t n).edges
  | 0 => ⟨by simp [dAt], by simp [dAt]⟩
  | n + 1 => by
    have h := EdgesUp.at t n
    rw [dAt]
    unfold drow
    split
    · exact ⟨h.1, fun e he => by rcases h.2 e he with h | h <;> omega⟩
    · have h2 := EdgesUp.mid (t := t) (cur := by assumption) h (t.labels.length - 1)
      exact ⟨h2.1, fun e he => by rcases h2.2 e he with h | h <;> omega⟩

end Go.Proofs.YtbbffbnfppbibaaGreatDoor

namespace Go.Proofs.YtbbffbnfppbibaaGreatDoor
open Go Go.RowKit

theorem tauT_list : tauT.toList = tauB := by rw [Lib.toList_data]; rfl
theorem labels_pair {ls : List ByteArray} (h : LabelsOk ls) : (ls.map (·.data.toList)).Pairwise fun a b => lessL a b = true := by
  rw [List.pairwise_map, List.pairwise_iff_getElem]
  intro i j hi hj hij
  rw [← Lib.toList_data, ← Lib.toList_data, lessL_iff]
  have hne : ls[i].toList ≠ ls[j].toList := fun e => by have := labels_inj h i j hi hj e; omega
  refine ⟨hne, ?_⟩
  by_cases h0 : i = 0
  · subst h0; exact .inl (h.first hi)
  · refine .inr ⟨h.other j hj (by omega), ?_⟩
    have := labels_less h i j (by omega) hij hj
    unfold strLess at this
    rw [less_lt, decide_eq_true_eq] at this
    exact this
/-- Labels in strict order, tau among them. -/
theorem labelsOk_of {L : List ByteArray} (hp : (L.map (·.data.toList)).Pairwise fun a b => lessL a b = true) (ht : tauT ∈ L) (hn : L.length ≤ 12) (hok : ∀ l ∈ L, l ≠ tauT → labelOk l.data.toList = true) : LabelsOk L := by
  rw [List.pairwise_map, List.pairwise_iff_getElem] at hp
  obtain ⟨k, hk, hkt⟩ := List.mem_iff_getElem.1 ht
  have h0 : k = 0 := by
    rcases Nat.eq_zero_or_pos k with h | h
    · exact h
    · have := hp 0 k (by omega) hk h
      rw [hkt, ← Lib.toList_data, ← Lib.toList_data, tauT_list, lessL_iff] at this
      rcases this.2 with h1 | h1
      · exact absurd h1 this.1
      · exact absurd rfl h1.1
  subst h0
  have hoth : ∀ i (h : i < L.length), 1 ≤ i → L[i].toList ≠ tauB := fun i hi h1 e => by
    have := hp 0 i hk hi (by omega)
    rw [hkt, ← Lib.toList_data, ← Lib.toList_data, tauT_list, e, lessL_irrefl] at this
    cases this
  refine ⟨by omega, hn, fun h => by rw [hkt, tauT_list], fun i hi h1 => hok _ (List.getElem_mem hi) (fun e => hoth i hi h1 (by rw [e, tauT_list])), hoth, fun i hi h1 => ?_⟩
  have := hp i (i + 1) (by omega) hi (by omega)
  rw [← Lib.toList_data, ← Lib.toList_data, lessL_iff] at this
  unfold strLess
  rw [less_lt, decide_eq_true_eq]
  rcases this.2 with h2 | h2
  · exact absurd h2 (hoth i (by omega) h1)
  · exact h2.2

/-- The labels in use. -/
theorem used_is {ls us : List ByteArray} (h : LabelsOk ls) (hu : ∀ l ∈ us, l ∈ ls) : LabelsOk (labSet (tauT :: us)) ∧ (∀ l, l ∈ labSet (tauT :: us) ↔ l ∈ tauT :: us) := by
  have h0 : tauT ∈ ls := by
    have : ls[0]'h.pos = tauT := toList_inj (by rw [h.first h.pos, tauT_list])
    rw [← this]
    exact List.getElem_mem _
  have he : labSet (tauT :: us) = ls.filter fun l => @decide (l ∈ tauT :: us) (Classical.propDecidable _) := by
    refine labSet_eq ?_ fun x => ?_
    · rw [List.pairwise_map]
      exact List.Pairwise.filter _ (List.pairwise_map.1 (labels_pair h))
    · rw [List.mem_filter, @decide_eq_true_eq _ (Classical.propDecidable _)]
      refine ⟨fun hx => ⟨?_, hx⟩, fun hx => hx.2⟩
      rcases List.mem_cons.1 hx with rfl | hx
      · exact h0
      · exact hu x hx
  have hm : ∀ l, l ∈ labSet (tauT :: us) ↔ l ∈ tauT :: us := fun l => by
    rw [he, List.mem_filter, @decide_eq_true_eq _ (Classical.propDecidable _)]
    refine ⟨fun hx => hx.2, fun hx => ⟨?_, hx⟩⟩
    rcases List.mem_cons.1 hx with rfl | hx
    · exact h0
    · exact hu l hx
  refine ⟨labelsOk_of ?_ ((hm _).2 (by simp)) ?_ fun l hl hne => ?_, hm⟩
  · rw [he, List.pairwise_map]
    exact List.Pairwise.filter _ (List.pairwise_map.1 (labels_pair h))
  · rw [he]
    exact Nat.le_trans (List.length_filter_le _ _) h.most
  · have : l ∈ ls := by
      rcases List.mem_cons.1 ((hm l).1 hl) with rfl | hx
      · exact absurd rfl hne
      · exact hu l hx
    obtain ⟨i, hi, rfl⟩ := List.mem_iff_getElem.1 this
    rcases Nat.eq_zero_or_pos i with h1 | h1
    · subst h1
      exact absurd (toList_inj (by rw [h.first hi, tauT_list])) hne
    · exact h.label i hi h1
theorem all_used {ls : List ByteArray} (h : LabelsOk ls) : labSet (tauT :: ls) = ls := by
  refine labSet_eq (labels_pair h) fun x => ?_
  have h0 : tauT ∈ ls := by
    have : ls[0]'h.pos = tauT := toList_inj (by rw [h.first h.pos, tauT_list])
    rw [← this]
    exact List.getElem_mem _
  rw [List.mem_cons]
  exact ⟨fun hx => hx.elim (fun e => e ▸ h0) id, .inr⟩

/-- In a list of labels in order, places go with the order. -/
theorem idxL_mono {L : List ByteArray} (h : LabelsOk L) {a b : ByteArray} (ha : a ∈ L) (hb : b ∈ L) (hl : lessL a.toList b.toList = true) : idxL L a < idxL L b := by
  obtain ⟨h1, h2, -⟩ := idxL_get ha
  obtain ⟨h3, h4, -⟩ := idxL_get hb
  have hp := labels_pair h
  rw [List.pairwise_map, List.pairwise_iff_getElem] at hp
  rcases Nat.lt_trichotomy (idxL L a) (idxL L b) with h5 | h5 | h5
  · exact h5
  · exfalso
    have : a = b := by rw [← h2, ← h4]; congr 1
    rw [this, lessL_irrefl] at hl
    cases hl
  · exfalso
    have := hp _ _ h3 h1 h5
    rw [h2, h4, ← Lib.toList_data, ← Lib.toList_data] at this
    have h6 := lessL_trans _ _ _ hl this
    rw [lessL_irrefl] at h6
    cases h6
theorem idxL_at {L : List ByteArray} (h : LabelsOk L) {k : Nat} (hk : k < L.length) : idxL L L[k] = k := by
  obtain ⟨h1, h2, -⟩ := idxL_get (List.getElem_mem hk)
  exact labels_inj h _ _ h1 hk (by rw [h2])

/-- The arcs of the net found. -/
def arcsOf (t : Lts) (st : DNet) : List Arc := st.edges.map (arcOf t)
theorem lab_get {t : Lts} {st : DNet} (hG : DGood t st) {e : Edge} (he : e ∈ st.edges) : ∃ h : e.lab.toNat < t.labels.length, labAt t e = t.labels[e.lab.toNat] ∧ (e.lab.toNat : Int) = e.lab := by
  have := hG.edges e he
  refine ⟨by omega, ?_, by omega⟩
  unfold labAt
  rw [List.getD_eq_getElem?_getD, List.getElem?_eq_getElem (by omega)]
  rfl
theorem edge_back {t : Lts} (hv : Valid t) {st : DNet} (hG : DGood t st) : (arcsOf t st).map (edgeIn t.labels) = st.edges := by
  unfold arcsOf
  rw [List.map_map]
  conv => rhs; rw [← List.map_id st.edges]
  apply List.map_congr_left
  intro e he
  obtain ⟨h1, h2, h3⟩ := lab_get hG he
  simp only [Function.comp, edgeIn, arcOf, id]
  rw [h2, idxL_at hv.labels h1, h3]
def Up (es : List Edge) : Prop := es.Pairwise fun a b => a.src < b.src ∨ (a.src = b.src ∧ a.lab < b.lab)
theorem up_at (t : Lts) (n : Nat) : Up (dAt t n).edges := (EdgesUp.at t n).1
theorem rise_up {es : List Edge} (h : Up es) : RiseE es := h.imp fun {a b} h => by rw [edgeLess_iff]; omega
theorem rise_in {t : Lts} (hv : Valid t) {st : DNet} (hG : DGood t st) (hu : Up st.edges) {L : List ByteArray} (hL : LabelsOk L) (hm : ∀ e ∈ st.edges, labAt t e ∈ L) : RiseE ((arcsOf t st).map (edgeIn L)) := by
  unfold arcsOf RiseE
  rw [List.map_map, List.pairwise_map]
  refine List.Pairwise.imp_of_mem ?_ hu
  intro a b ha hb h
  rw [edgeLess_iff]
  rcases h with h | ⟨h, h2⟩
  · exact .inl h
  · refine .inr ⟨h, .inl ?_⟩
    obtain ⟨a1, a2, a3⟩ := lab_get hG ha
    obtain ⟨b1, b2, b3⟩ := lab_get hG hb
    have hp := labels_pair hv.labels
    rw [List.pairwise_map, List.pairwise_iff_getElem] at hp
    have h3 := hp _ _ a1 b1 (by omega)
    rw [← a2, ← b2, ← Lib.toList_data, ← Lib.toList_data] at h3
    have := idxL_mono hL (hm a ha) (hm b hb) h3
    simp only [Function.comp, edgeIn, arcOf]
    omega

/-- The system by the labels in use. -/
def sysOf (t : Lts) (st : DNet) : Lts := ⟨st.rows.length, 0, labSet (tauT :: (arcsOf t st).map Arc.lab), (arcsOf t st).map (edgeIn (labSet (tauT :: (arcsOf t st).map Arc.lab)))⟩
theorem used_mem {t : Lts} {st : DNet} (hG : DGood t st) : ∀ l ∈ (arcsOf t st).map Arc.lab, l ∈ t.labels := by
  intro l hl
  unfold arcsOf at hl
  rw [List.map_map, List.mem_map] at hl
  obtain ⟨e, he, rfl⟩ := hl
  obtain ⟨h1, h2, -⟩ := lab_get hG he
  simp only [Function.comp, arcOf]
  rw [h2]
  exact List.getElem_mem _
theorem arc_mem {t : Lts} (hv : Valid t) {st : DNet} (hG : DGood t st) : ∀ a ∈ arcsOf t st, a.lab ∈ (sysOf t st).labels := fun a ha => ((used_is hv.labels (used_mem hG)).2 _).2 (List.mem_cons_of_mem _ (List.mem_map.2 ⟨a, ha, rfl⟩))
theorem sys_rise {t : Lts} (hv : Valid t) {st : DNet} (hG : DGood t st) (hu : Up st.edges) : RiseE (sysOf t st).edges :=
  rise_in hv hG hu (used_is hv.labels (used_mem hG)).1 fun e he => arc_mem hv hG _ (List.mem_map.2 ⟨e, he, rfl⟩)
theorem sys_edge {t : Lts} (hv : Valid t) {st : DNet} (hG : DGood t st) : ∀ i (h : i < (sysOf t st).edges.length), EdgeOk (sysOf t st) (sysOf t st).edges[i] := by
  intro i hi
  have hi' : i < st.edges.length := by simpa [sysOf, arcsOf] using hi
  have he := List.getElem_mem hi'
  have h1 := hG.edges _ he
  have h2 := arc_mem hv hG (arcOf t st.edges[i]) (List.mem_map.2 ⟨_, he, rfl⟩)
  obtain ⟨h3, -, -⟩ := idxL_get h2
  have h4 : (sysOf t st).edges[i] = ⟨st.edges[i].src, (idxL (sysOf t st).labels (labAt t st.edges[i]) : Nat), st.edges[i].dst⟩ := by simp [sysOf, arcsOf, edgeIn, arcOf]
  rw [h4]
  refine ⟨h1.1.1, h1.1.2, h1.2.2.1, h1.2.2.2, by show (0 : Int) ≤ ((idxL _ _ : Nat) : Int); omega, ?_⟩
  show ((idxL (sysOf t st).labels (labAt t st.edges[i]) : Nat) : Int) < _
  have h5 : idxL (sysOf t st).labels (labAt t st.edges[i]) < (sysOf t st).labels.length := h3
  omega
theorem sys_valid {t : Lts} (hv : Valid t) {st : DNet} (hG : DGood t st) (hu : Up st.edges) : Valid (sysOf t st) ↔ DSmall st := by
  have hel : (sysOf t st).edges.length = st.edges.length := by simp [sysOf, arcsOf]
  constructor
  · intro h
    refine ⟨?_, by have := h.most; omega⟩
    have := h.st1
    have h2 : (sysOf t st).states = (st.rows.length : Int) := rfl
    omega
  · rintro ⟨h1, h2⟩
    have h0 := hG.some
    refine ⟨by show (1 : Int) ≤ (st.rows.length : Int); omega, by show (st.rows.length : Int) ≤ 40; omega, Int.le_refl 0, by show (0 : Int) < (st.rows.length : Int); omega, (used_is hv.labels (used_mem hG)).1, by omega, sys_edge hv hG, fun i hi => ?_⟩
    exact List.pairwise_iff_getElem.1 (sys_rise hv hG hu) i (i + 1) (by omega) hi (by omega)
theorem sys_arcs {t : Lts} (hv : Valid t) {st : DNet} (hG : DGood t st) : (sysOf t st).edges.map (arcOf (sysOf t st)) = arcsOf t st := by
  show ((arcsOf t st).map _).map _ = _
  rw [List.map_map]
  conv => rhs; rw [← List.map_id (arcsOf t st)]
  apply List.map_congr_left
  intro a ha
  obtain ⟨h1, h2, -⟩ := idxL_get (arc_mem hv hG a ha)
  simp only [Function.comp, edgeIn, arcOf, id, labAt]
  rw [Int.toNat_natCast]
  have : (sysOf t st).labels.getD (idxL (sysOf t st).labels a.lab) ByteArray.empty = a.lab := by rw [List.getD_eq_getElem?_getD, List.getElem?_eq_getElem h1, Option.getD_some, h2]
  show Arc.mk a.src ((sysOf t st).labels.getD (idxL (sysOf t st).labels a.lab) ByteArray.empty) a.dst = a
  rw [this]

end Go.Proofs.YtbbffbnfppbibaaGreatDoor
