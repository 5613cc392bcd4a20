/-
  The edges found stand in ascending order of where they begin and of their labels.
  Plain laws for lts within determinize: the labels in use, the edges by them, that they lead back.
  What the implementation's ValidLts computes.
  A system out of the search: plain facts, and a struct of four cells.
  The key of a monitor's state: the states of the model, and the state of the property or -1.
-/
import Derived.Test.YtmhpfmanagbggaaGreatDoorK5
import Derived.Test.YtmhpfmanagbggaaGreatDoorK9
import Derived.Test.YtmhpfmanagbggaaGreatDoorK6
import Derived.Test.YtmhpfmanagbggaaGreatDoorK3
import Derived.Test.YtmhpfmanagbggaaGreatDoorK7
import Derived.Handy
namespace Go.Proofs.YtmhpfmanagbggaaGreatDoor
open Go Go.RowKit

/-- Ascending, and no edge behind the label number j of the row n. -/
def EdgesUp (n j : Int) (es : List Edge) : Prop := es.Pairwise (fun a b => a.src < b.src ∨ (a.src = b.src ∧ a.lab < b.lab)) ∧ ∀ e ∈ es, e.src < n ∨ (e.src = n ∧ e.lab ≤ j)
theorem EdgesUp.step {t : Lts} {i k : Nat} {cur : List Int} {st : DNet} (h : EdgesUp i k st.edges) : EdgesUp i ((k : Int) + 1) (dstep t i cur st k).edges := by
 unfold dstep
 split
 ·exact ⟨h.1, fun e he => by rcases h.2 e he with h | h <;> omega⟩
 ·refine ⟨?_, fun e he => ?_⟩
  ·show (st.edges ++ [_]).Pairwise _
   rw [List.pairwise_append]
   refine ⟨h.1, by simp, fun a ha b hb => ?_⟩
   rw [List.mem_singleton] at hb
   subst hb
   rcases h.2 a ha with h | h
   ·exact .inl h
   ·exact .inr ⟨h.1, by show a.lab < (k : Int) + 1; omega⟩
  ·rcases List.mem_append.1 he with he | he
   ·rcases h.2 e he with h | h <;> omega
   ·rw [List.mem_singleton] at he
    subst he
    exact .inr ⟨rfl, Int.le_refl _⟩
theorem EdgesUp.mid {t : Lts} {i : Nat} {cur : List Int} {st : DNet} (h : EdgesUp i 0 st.edges) : ∀ j : Nat, EdgesUp i j (dmid t i cur st j).edges
 | 0 => by rw [dmid_zero]; exact h
 | j + 1 => by
  rw [dmid_succ]
  exact (EdgesUp.mid h j).step
theorem EdgesUp.at (t : Lts) : ∀ n : Nat, EdgesUp n 0 (dAt t n).edges
 | 0 => ⟨by simp [dAt], by simp [dAt]⟩
 | n + 1 => by
  have h := EdgesUp.at t n
  rw [dAt]
  unfold drow
  split
  ·exact ⟨h.1, fun e he => by rcases h.2 e he with h | h <;> omega⟩
  ·have h2 := EdgesUp.mid (t := t) (cur := by assumption) h (t.labels.length - 1)
   exact ⟨h2.1, fun e he => by rcases h2.2 e he with h | h <;> omega⟩

end Go.Proofs.YtmhpfmanagbggaaGreatDoor

namespace Go.Proofs.YtmhpfmanagbggaaGreatDoor
open Go Go.RowKit

theorem tauT_list : tauT.toList = tauB := by rw [Lib.toList_data]; rfl
theorem labels_pair {ls : List ByteArray} (h : LabelsOk ls) : (ls.map (·.data.toList)).Pairwise fun a b => lessL a b = true := by
 rw [List.pairwise_map, List.pairwise_iff_getElem]
 intro i j hi hj hij
 rw [← Lib.toList_data, ← Lib.toList_data, lessL_iff]
 have hne : ls[i].toList ≠ ls[j].toList := fun e => by have := labels_inj h i j hi hj e; omega
 refine ⟨hne, ?_⟩
 by_cases h0 : i = 0
 ·subst h0; exact .inl (h.first hi)
 ·refine .inr ⟨h.other j hj (by omega), ?_⟩
  have := labels_less h i j (by omega) hij hj
  unfold strLess at this
  rw [less_lt, decide_eq_true_eq] at this
  exact this
/-- Labels in strict order, tau among them. -/
theorem labelsOk_of {L : List ByteArray} (hp : (L.map (·.data.toList)).Pairwise fun a b => lessL a b = true) (ht : tauT ∈ L) (hn : L.length ≤ 12) (hok : ∀ l ∈ L, l ≠ tauT → labelOk l.data.toList = true) : LabelsOk L := by
 rw [List.pairwise_map, List.pairwise_iff_getElem] at hp
 obtain ⟨k, hk, hkt⟩ := List.mem_iff_getElem.1 ht
 have h0 : k = 0 := by
  rcases Nat.eq_zero_or_pos k with h | h
  ·exact h
  ·have := hp 0 k (by omega) hk h
   rw [hkt, ← Lib.toList_data, ← Lib.toList_data, tauT_list, lessL_iff] at this
   rcases this.2 with h1 | h1
   ·exact absurd h1 this.1
   ·exact absurd rfl h1.1
 subst h0
 have hoth : ∀ i (h : i < L.length), 1 ≤ i → L[i].toList ≠ tauB := fun i hi h1 e => by
  have := hp 0 i hk hi (by omega)
  rw [hkt, ← Lib.toList_data, ← Lib.toList_data, tauT_list, e, lessL_irrefl] at this
  cases this
 refine ⟨by omega, hn, fun h => by rw [hkt, tauT_list], fun i hi h1 => hok _ (List.getElem_mem hi) (fun e => hoth i hi h1 (by rw [e, tauT_list])), hoth, fun i hi h1 => ?_⟩
 have := hp i (i + 1) (by omega) hi (by omega)
 rw [← Lib.toList_data, ← Lib.toList_data, lessL_iff] at this
 unfold strLess
 rw [less_lt, decide_eq_true_eq]
 rcases this.2 with h2 | h2
 ·exact absurd h2 (hoth i (by omega) h1)
 ·exact h2.2

/-- The labels in use. -/
theorem used_is {ls us : List ByteArray} (h : LabelsOk ls) (hu : ∀ l ∈ us, l ∈ ls) : LabelsOk (labSet (tauT :: us)) ∧ (∀ l, l ∈ labSet (tauT :: us) ↔ l ∈ tauT :: us) := by
 have h0 : tauT ∈ ls := by
  have : ls[0]'h.pos = tauT := toList_inj (by rw [h.first h.pos, tauT_list])
  rw [← this]
  exact List.getElem_mem _
 have he : labSet (tauT :: us) = ls.filter fun l => @decide (l ∈ tauT :: us) (Classical.propDecidable _) := by
  refine labSet_eq ?_ fun x => ?_
  ·rw [List.pairwise_map]
   exact List.Pairwise.filter _ (List.pairwise_map.1 (labels_pair h))
  ·rw [List.mem_filter, @decide_eq_true_eq _ (Classical.propDecidable _)]
   refine ⟨fun hx => ⟨?_, hx⟩, fun hx => hx.2⟩
   rcases List.mem_cons.1 hx with rfl | hx
   ·exact h0
   ·exact hu x hx
 have hm : ∀ l, l ∈ labSet (tauT :: us) ↔ l ∈ tauT :: us := fun l => by
  rw [he, List.mem_filter, @decide_eq_true_eq _ (Classical.propDecidable _)]
  refine ⟨fun hx => hx.2, fun hx => ⟨?_, hx⟩⟩
  rcases List.mem_cons.1 hx with rfl | hx
  ·exact h0
  ·exact hu l hx
 refine ⟨labelsOk_of ?_ ((hm _).2 (by simp)) ?_ fun l hl hne => ?_, hm⟩
 ·rw [he, List.pairwise_map]
  exact List.Pairwise.filter _ (List.pairwise_map.1 (labels_pair h))
 ·rw [he]
  exact Nat.le_trans (List.length_filter_le _ _) h.most
 ·have : l ∈ ls := by
   rcases List.mem_cons.1 ((hm l).1 hl) with rfl | hx
   ·exact absurd rfl hne
   ·exact hu l hx
  obtain ⟨i, hi, rfl⟩ := List.mem_iff_getElem.1 this
  rcases Nat.eq_zero_or_pos i with h1 | h1
  ·subst h1
   exact absurd (toList_inj (by rw [h.first hi, tauT_list])) hne
  ·exact h.label i hi h1
theorem all_used {ls : List ByteArray} (h : LabelsOk ls) : labSet (tauT :: ls) = ls := by
 refine labSet_eq (labels_pair h) fun x => ?_
 have h0 : tauT ∈ ls := by
  have : ls[0]'h.pos = tauT := toList_inj (by rw [h.first h.pos, tauT_list])
  rw [← this]
  exact List.getElem_mem _
 rw [List.mem_cons]
 exact ⟨fun hx => hx.elim (fun e => e ▸ h0) id, .inr⟩

/-- In a list of labels in order, places go with the order. -/
theorem idxL_mono {L : List ByteArray} (h : LabelsOk L) {a b : ByteArray} (ha : a ∈ L) (hb : b ∈ L) (hl : lessL a.toList b.toList = true) : idxL L a < idxL L b := by
 obtain ⟨h1, h2, -⟩ := idxL_get ha
 obtain ⟨h3, h4, -⟩ := idxL_get hb
 have hp := labels_pair h
 rw [List.pairwise_map, List.pairwise_iff_getElem] at hp
 rcases Nat.lt_trichotomy (idxL L a) (idxL L b) with h5 | h5 | h5
 ·exact h5
 ·exfalso
  have : a = b := by rw [← h2, ← h4]; congr 1
  rw [this, lessL_irrefl] at hl
  cases hl
 ·exfalso
  have := hp _ _ h3 h1 h5
  rw [h2, h4, ← Lib.toList_data, ← Lib.toList_data] at this
  have h6 := lessL_trans _ _ _ hl this
  rw [lessL_irrefl] at h6
  cases h6
theorem idxL_at {L : List ByteArray} (h : LabelsOk L) {k : Nat} (hk : k < L.length) : idxL L L[k] = k := by
 obtain ⟨h1, h2, -⟩ := idxL_get (List.getElem_mem hk)
 exact labels_inj h _ _ h1 hk (by rw [h2])

/-- The arcs of the net found. -/
def arcsOf (t : Lts) (st : DNet) : List Arc := st.edges.map (arcOf t)
theorem lab_get {t : Lts} {st : DNet} (hG : DGood t st) {e : Edge} (he : e ∈ st.edges) : ∃ h : e.lab.toNat < t.labels.length, labAt t e = t.labels[e.lab.toNat] ∧ (e.lab.toNat : Int) = e.lab := by
 have := hG.edges e he
 refine ⟨by omega, ?_, by omega⟩
 unfold labAt
 rw [List.getD_eq_getElem?_getD, List.getElem?_eq_getElem (by omega)]
 rfl
theorem edge_back {t : Lts} (hv : Valid t) {st : DNet} (hG : DGood t st) : (arcsOf t st).map (edgeIn t.labels) = st.edges := by
 unfold arcsOf
 rw [List.map_map]
 conv => rhs; rw [← List.map_id st.edges]
 apply List.map_congr_left
 intro e he
 obtain ⟨h1, h2, h3⟩ := lab_get hG he
 simp only [Function.comp, edgeIn, arcOf, id]
 rw [h2, idxL_at hv.labels h1, h3]
def Up (es : List Edge) : Prop := es.Pairwise fun a b => a.src < b.src ∨ (a.src = b.src ∧ a.lab < b.lab)
theorem rise_up {es : List Edge} (h : Up es) : RiseE es := h.imp fun {a b} h => by rw [edgeLess_iff]; omega
theorem rise_in {t : Lts} (hv : Valid t) {st : DNet} (hG : DGood t st) (hu : Up st.edges) {L : List ByteArray} (hL : LabelsOk L) (hm : ∀ e ∈ st.edges, labAt t e ∈ L) : RiseE ((arcsOf t st).map (edgeIn L)) := by
 unfold arcsOf RiseE
 rw [List.map_map, List.pairwise_map]
 refine List.Pairwise.imp_of_mem ?_ hu
 intro a b ha hb h
 rw [edgeLess_iff]
 rcases h with h | ⟨h, h2⟩
 ·exact .inl h
 ·refine .inr ⟨h, .inl ?_⟩
  obtain ⟨a1, a2, a3⟩ := lab_get hG ha
  obtain ⟨b1, b2, b3⟩ := lab_get hG hb
  have hp := labels_pair hv.labels
  rw [List.pairwise_map, List.pairwise_iff_getElem] at hp
  have h3 := hp _ _ a1 b1 (by omega)
  rw [← a2, ← b2, ← Lib.toList_data, ← Lib.toList_data] at h3
  have := idxL_mono hL (hm a ha) (hm b hb) h3
  simp only [Function.comp, edgeIn, arcOf]
  omega

/-- The system by the labels in use. -/
def sysOf (t : Lts) (st : DNet) : Lts := ⟨st.rows.length, 0, labSet (tauT :: (arcsOf t st).map Arc.lab), (arcsOf t st).map (edgeIn (labSet (tauT :: (arcsOf t st).map Arc.lab)))⟩
theorem used_mem {t : Lts} {st : DNet} (hG : DGood t st) : ∀ l ∈ (arcsOf t st).map Arc.lab, l ∈ t.labels := by
 intro l hl
 unfold arcsOf at hl
 rw [List.map_map, List.mem_map] at hl
 obtain ⟨e, he, rfl⟩ := hl
 obtain ⟨h1, h2, -⟩ := lab_get hG he
 simp only [Function.comp, arcOf]
 rw [h2]
 exact List.getElem_mem _
theorem arc_mem {t : Lts} (hv : Valid t) {st : DNet} (hG : DGood t st) : ∀ a ∈ arcsOf t st, a.lab ∈ (sysOf t st).labels := fun a ha => ((used_is hv.labels (used_mem hG)).2 _).2 (List.mem_cons_of_mem _ (List.mem_map.2 ⟨a, ha, rfl⟩))
theorem sys_rise {t : Lts} (hv : Valid t) {st : DNet} (hG : DGood t st) (hu : Up st.edges) : RiseE (sysOf t st).edges :=
 rise_in hv hG hu (used_is hv.labels (used_mem hG)).1 fun e he => arc_mem hv hG _ (List.mem_map.2 ⟨e, he, rfl⟩)
theorem sys_edge {t : Lts} (hv : Valid t) {st : DNet} (hG : DGood t st) : ∀ i (h : i < (sysOf t st).edges.length), EdgeOk (sysOf t st) (sysOf t st).edges[i] := by
 intro i hi
 have hi' : i < st.edges.length := by simpa [sysOf, arcsOf] using hi
 have he := List.getElem_mem hi'
 have h1 := hG.edges _ he
 have h2 := arc_mem hv hG (arcOf t st.edges[i]) (List.mem_map.2 ⟨_, he, rfl⟩)
 obtain ⟨h3, -, -⟩ := idxL_get h2
 have h4 : (sysOf t st).edges[i] = ⟨st.edges[i].src, (idxL (sysOf t st).labels (labAt t st.edges[i]) : Nat), st.edges[i].dst⟩ := by simp [sysOf, arcsOf, edgeIn, arcOf]
 rw [h4]
 refine ⟨h1.1.1, h1.1.2, h1.2.2.1, h1.2.2.2, by show (0 : Int) ≤ ((idxL _ _ : Nat) : Int); omega, ?_⟩
 show ((idxL (sysOf t st).labels (labAt t st.edges[i]) : Nat) : Int) < _
 have h5 : idxL (sysOf t st).labels (labAt t st.edges[i]) < (sysOf t st).labels.length := h3
 omega
theorem sys_valid {t : Lts} (hv : Valid t) {st : DNet} (hG : DGood t st) (hu : Up st.edges) : Valid (sysOf t st) ↔ DSmall st := by
 have hel : (sysOf t st).edges.length = st.edges.length := by simp [sysOf, arcsOf]
 constructor
 ·intro h
  refine ⟨?_, by have := h.most; omega⟩
  have := h.st1
  have h2 : (sysOf t st).states = (st.rows.length : Int) := rfl
  omega
 ·rintro ⟨h1, h2⟩
  have h0 := hG.some
  refine ⟨by show (1 : Int) ≤ (st.rows.length : Int); omega, by show (st.rows.length : Int) ≤ 40; omega, Int.le_refl 0, by show (0 : Int) < (st.rows.length : Int); omega, (used_is hv.labels (used_mem hG)).1, by omega, sys_edge hv hG, fun i hi => ?_⟩
  exact List.pairwise_iff_getElem.1 (sys_rise hv hG hu) i (i + 1) (by omega) hi (by omega)
theorem sys_arcs {t : Lts} (hv : Valid t) {st : DNet} (hG : DGood t st) : (sysOf t st).edges.map (arcOf (sysOf t st)) = arcsOf t st := by
 show ((arcsOf t st).map _).map _ = _
 rw [List.map_map]
 conv => rhs; rw [← List.map_id (arcsOf t st)]
 apply List.map_congr_left
 intro a ha
 obtain ⟨h1, h2, -⟩ := idxL_get (arc_mem hv hG a ha)
 simp only [Function.comp, edgeIn, arcOf, id, labAt]
 rw [Int.toNat_natCast]
 have : (sysOf t st).labels.getD (idxL (sysOf t st).labels a.lab) ByteArray.empty = a.lab := by rw [List.getD_eq_getElem?_getD, List.getElem?_eq_getElem h1, Option.getD_some, h2]
 show Arc.mk a.src ((sysOf t st).labels.getD (idxL (sysOf t st).labels a.lab) ByteArray.empty) a.dst = a
 rw [this]

end Go.Proofs.YtmhpfmanagbggaaGreatDoor

namespace Go.Proofs.YtmhpfmanagbggaaGreatDoor
open Go Go.RowKit

def Short20 (ss : List ByteArray) : Prop := ∀ i (h : i < ss.length), ss[i].size ≤ 1048576

theorem within_is {n lo hi : Int} {b : Bool} (h : inB n lo hi = b) (w : World) : Calls Tryz.prog 66 #[.int .i64 n, .int .i64 lo, .int .i64 hi] w fun e w' => e = .returned (.bool b) ∧ w = w' := by
 subst h; exact within_any n lo hi w
theorem isState_is {lv ev : Value} {s i k : Int} {b : Bool} (h : inB k 0 (s - 1) = b) (w : World) (h1 : 1 ≤ s) (h2 : s ≤ 40) :
  Calls Tryz.prog 67 #[.agg #[.int .i64 s, .int .i64 i, lv, ev], .int .i64 k] w fun e w' => e = .returned (.bool b) ∧ Below w.heap.size w w' := by
 subst h; exact isState_any lv ev s i k w h1 h2
theorem IsLabel_is {s : ByteArray} {b : Bool} (h : labelOk s.data.toList = b) (w : World) (hs : s.size ≤ 1048576) (g : Glob w) :
  Calls Tryz.prog 68 #[.string s] w fun e w' => e = .returned (.bool b) ∧ Below w.heap.size w w' := by
 subst h; rw [← readOk_eq]; exact IsLabel_any s w hs g

theorem index_in (n m : Int) (w : World) (h1 : -9223372036854775807 ≤ m) (h2 : m ≤ 9223372036854775807) : Calls Tryz.prog 69 #[.int .i64 n, .int .i64 m] w fun e w' => e = .returned (.bool (inB n 0 (m - 1))) ∧ w = w' :=
 index_any n m w h1 h2

/-- The first k labels are as they must be. -/
def GoodTo (ls : List ByteArray) (k : Nat) : Prop :=
 ∀ q (h : q < ls.length), q < k → labelOk ls[q].data.toList = true ∧ (ls[q].toList == tauB) = decide (q = 0) ∧ ∀ (_ : 1 < q), strLess ls[q - 1] ls[q] = true

theorem GoodTo.succ {ls : List ByteArray} {k : Nat} (h : GoodTo ls k) (hk : k < ls.length) (h1 : labelOk ls[k].data.toList = true) (h2 : (ls[k].toList == tauB) = decide (k = 0)) (h3 : ∀ (_ : 1 < k), strLess ls[k - 1] ls[k] = true) : GoodTo ls (k + 1) := by
 intro q hq hlt
 by_cases e : q = k
 ·subst e; exact ⟨h1, h2, h3⟩
 ·exact h q hq (by omega)
theorem GoodTo.all {ls : List ByteArray} (h : GoodTo ls ls.length) (h1 : 1 ≤ ls.length) (h2 : ls.length ≤ 12) : LabelsOk ls :=
 ⟨h1, h2, fun hp => by simpa using (h 0 hp hp).2.1, fun i hi _ => (h i hi hi).1, fun i hi h1 => by
  have := (h i hi hi).2.1
  rw [decide_eq_false (by omega)] at this
  simpa using this, fun i hi h1 => (h (i + 1) hi hi).2.2 (by omega)⟩
theorem LabelsOk.all {ls : List ByteArray} (h : LabelsOk ls) (q : Nat) (hq : q < ls.length) : labelOk ls[q].data.toList = true := by
 by_cases e : q = 0
 ·subst e
  have := h.first hq
  rw [Lib.toList_data] at this
  rw [this]
  decide
 ·exact h.label q hq (by omega)

set_option maxRecDepth 100000 in
set_option maxHeartbeats 4000000 in
theorem ValidLts_any (lo : Nat) (t : Lts) (lv ev : Value) (w : World) (hsh : Short20 t.labels) (hl : SliceK 1 encS lo w lv t.labels) (he : SliceK 3 encE lo w ev t.edges) (g : Glob w) :
  Calls Tryz.prog 39 #[.agg #[.int .i64 t.states, .int .i64 t.initial, lv, ev]] w (Decides (Valid t) w) := by
 have HSH := Lib.hid hsh
 have G := Lib.hid g
 clear hsh g
 obtain ⟨al, cl, rfl, hln, hlc, hlr⟩ := hl
 obtain ⟨ae, ce, rfl, hen, hec, her⟩ := he
 have HLR := Lib.hid hlr
 have HER := Lib.hid her
 clear hlr her
 have HB0 : Hid (Below w.heap.size w (w.alloc (.cells #[.int .i64 t.states, .int .i64 t.initial, .slice al t.labels.length cl, .slice ae t.edges.length ce] 29))) := (Below.refl _ _).alloc (Nat.le_refl _) _
 cases hA : inB t.states 1 40
 ·have HA := Lib.hid hA
  clear hA
  go_enter Tryz.func39, Tryz.ntmps39
  go_wp2_with fail
  refine (within_is HA.out _).mono ?_
  rintro e w' ⟨rfl, rfl⟩
  go_wp2_with fail
  go_ret
  exact ⟨false, rfl, ⟨(fun h => by cases h), fun h => absurd ⟨h.st0, h.st1⟩ (inB_not HA.out)⟩, HB0.out⟩
 ·have hA1 : 1 ≤ t.states := (inB_iff.1 hA).1
  have hA2 : t.states ≤ 40 := (inB_iff.1 hA).2
  have HA := Lib.hid hA
  clear hA
  cases hB : inB t.initial 0 (t.states - 1)
  ·have HB := Lib.hid hB
   clear hB
   go_enter Tryz.func39, Tryz.ntmps39
   go_wp2_with fail
   refine (within_is HA.out _).mono ?_
   rintro e w' ⟨rfl, rfl⟩
   go_wp2_with fail
   refine (isState_is HB.out _ hA1 hA2).mono ?_
   rintro e w1 ⟨rfl, hb1⟩
   have HB1 := Lib.hid (HB0.out.trans (hb1.mono HB0.out.size))
   clear hb1
   go_wp2_with fail
   go_ret
   exact ⟨false, rfl, ⟨(fun h => by cases h), fun h => absurd ⟨h.in0, by have := h.in1; omega⟩ (inB_not HB.out)⟩, HB1.out⟩
  ·have HI : Hid (0 ≤ t.initial ∧ t.initial < t.states) := by unfold Hid; have := inB_iff.1 hB; omega
   have HB := Lib.hid hB
   clear hB
   cases hC : inB (t.labels.length : Int) 1 12
   ·have HC := Lib.hid hC
    clear hC
    go_enter Tryz.func39, Tryz.ntmps39
    go_wp2_with fail
    refine (within_is HA.out _).mono ?_
    rintro e w' ⟨rfl, rfl⟩
    go_wp2_with fail
    refine (isState_is HB.out _ hA1 hA2).mono ?_
    rintro e w1 ⟨rfl, hb1⟩
    have HB1 := Lib.hid (HB0.out.trans (hb1.mono HB0.out.size))
    have q2 : w1.cell? ⟨w.heap.size, 2, none⟩ = some (.slice al t.labels.length cl) := keeps hb1 (by simp) (by simp)
    clear hb1
    go_wp2_with fail
    refine (within_is HC.out _).mono ?_
    rintro e w' ⟨rfl, rfl⟩
    go_wp2_with fail
    go_ret
    exact ⟨false, rfl, ⟨(fun h => by cases h), fun h => by have h1 := h.labels.pos; have h2 := h.labels.most; exact (inB_not HC.out ⟨by omega, by omega⟩).elim⟩, HB1.out⟩
   ·have hC1 : 1 ≤ t.labels.length ∧ t.labels.length ≤ 12 := by have := inB_iff.1 hC; omega
    have HC := Lib.hid hC
    clear hC
    by_cases hD : 300 < (t.edges.length : Int)
    ·go_enter Tryz.func39, Tryz.ntmps39
     go_wp2_with fail
     refine (within_is HA.out _).mono ?_
     rintro e w' ⟨rfl, rfl⟩
     go_wp2_with fail
     refine (isState_is HB.out _ hA1 hA2).mono ?_
     rintro e w1 ⟨rfl, hb1⟩
     have HB1 := Lib.hid (HB0.out.trans (hb1.mono HB0.out.size))
     have q2 : w1.cell? ⟨w.heap.size, 2, none⟩ = some (.slice al t.labels.length cl) := keeps hb1 (by simp) (by simp)
     have q3 : w1.cell? ⟨w.heap.size, 3, none⟩ = some (.slice ae t.edges.length ce) := keeps hb1 (by simp) (by simp)
     clear hb1
     go_wp2_with fail
     refine (within_is HC.out _).mono ?_
     rintro e w' ⟨rfl, rfl⟩
     go_wp2_with fail
     go_ret
     exact ⟨false, rfl, ⟨(fun h => by cases h), fun h => by have h1 := h.most; omega⟩, HB1.out⟩
    ·go_enter Tryz.func39, Tryz.ntmps39
     go_wp2_with fail
     refine (within_is HA.out _).mono ?_
     rintro e w' ⟨rfl, rfl⟩
     go_wp2_with fail
     refine (isState_is HB.out _ hA1 hA2).mono ?_
     rintro e w1 ⟨rfl, hb1⟩
     have HB1 := Lib.hid (HB0.out.trans (hb1.mono HB0.out.size))
     have q0 : w1.cell? ⟨w.heap.size, 0, none⟩ = some (.int .i64 t.states) := keeps hb1 (by simp) (by simp)
     have q1 : w1.cell? ⟨w.heap.size, 1, none⟩ = some (.int .i64 t.initial) := keeps hb1 (by simp) (by simp)
     have q2 : w1.cell? ⟨w.heap.size, 2, none⟩ = some (.slice al t.labels.length cl) := keeps hb1 (by simp) (by simp)
     have q3 : w1.cell? ⟨w.heap.size, 3, none⟩ = some (.slice ae t.edges.length ce) := keeps hb1 (by simp) (by simp)
     have hbz : w.heap.size < w1.heap.size := by have := hb1.size; simp at this; omega
     clear hb1 HB0
     go_wp2_with fail
     refine (within_is HC.out _).mono ?_
     rintro e w' ⟨rfl, rfl⟩
     go_wp2_with fail
     have Q0 := Lib.hid q0
     have Q1 := Lib.hid q1
     have Q2 := Lib.hid q2
     have Q3 := Lib.hid q3
     have HLR1 := Lib.hid (HLR.out.below HB1.out)
     have HER1 := Lib.hid (HER.out.below HB1.out)
     have G1 := Lib.hid (G.out.below HB1.out)
     clear q0 q1 q2 q3 HLR HER G
     obtain ⟨b0, hb0⟩ : ∃ b0, b0 = w.heap.size := ⟨_, rfl⟩
     rw [← hb0] at hbz Q0 Q1 Q2 Q3
     simp only [← hb0]
     have HB00 := Lib.hid hb0
     clear hb0
     go_loopw [34] (fun i wr => ∃ k : Nat, k ≤ t.labels.length ∧ i = .int .i64 k ∧ Below w1.heap.size w1 wr ∧ GoodTo t.labels k) (fun i _ => t.labels.length - (intOf i).toNat)
     case atStart => exact ⟨0, Nat.zero_le _, rfl, Below.refl _ _, fun _ _ h => by omega⟩
     case round =>
      obtain ⟨k, hk, rfl, hbl, hgd⟩ := hrel
      have HBL := Lib.hid hbl
      have HGD := Lib.hid hgd
      have hsz := hbl.size
      clear hgd
      by_cases hlt : k < t.labels.length
      ·have hshk := HSH.out k hlt
       obtain ⟨bl, ol, rfl, -, hbs, c1⟩ := (HLR1.out.below hbl).one hlt
       simp only [encS, List.getElem?_cons_zero] at c1
       have q2 := keeps hbl hbz Q2.out
       obtain ⟨s, hs⟩ : ∃ s, s = t.labels[k] := ⟨_, rfl⟩
       rw [← hs] at c1 hshk
       have HS := Lib.hid hs
       have GR := Lib.hid (G1.out.below hbl)
       have HRR := Lib.hid (HLR1.out.below hbl)
       clear hs hbl
       cases h1 : labelOk s.data.toList
       ·have H1 := Lib.hid h1
        clear h1
        go_wp2_with fail
        refine (IsLabel_is H1.out _ hshk GR.out).mono ?_
        rintro e w2 ⟨rfl, hb2⟩
        have HB2 := Lib.hid (HBL.out.trans (hb2.mono hsz))
        clear hb2
        go_wp2_with fail
        go_ret
        refine ⟨false, rfl, ⟨(fun h => by cases h), fun h => ?_⟩, HB1.out.trans (HB2.out.mono HB1.out.size)⟩
        have := h.labels.all k hlt
        rw [← HS.out, H1.out] at this
        cases this
       ·have H1 := Lib.hid h1
        clear h1
        have HRL := Lib.hid (HLR1.out.below HBL.out)
        cases h2 : (s.toList == [116, 97, 117])
        ·have H2 : Hid ((t.labels[k].toList == tauB) = false) := by unfold Hid; rw [← HS.out]; exact h2
         rcases Nat.eq_zero_or_pos k with hk0 | hk0
         ·have hz : ((k : Int) == 0) = true := by rw [beq_iff_eq]; omega
          have HK0 : Hid (k = 0) := hk0
          clear hk0
          go_wp2_with fail
          refine (IsLabel_is H1.out _ hshk GR.out).mono ?_
          rintro e w2 ⟨rfl, hb2⟩
          have HB2 := Lib.hid (HBL.out.trans (hb2.mono hsz))
          clear hb2
          go_wp2_with fail
          go_ret
          refine ⟨false, rfl, ⟨(fun h => by cases h), fun h => ?_⟩, HB1.out.trans (HB2.out.mono HB1.out.size)⟩
          have hk0 : k = 0 := HK0.out
          subst hk0
          have h3 := h.labels.first hlt
          have h4 := H2.out
          rw [h3] at h4
          simp at h4
         ·have hz : ((k : Int) == 0) = false := by rw [beq_eq_false_iff_ne]; omega
          by_cases hk1 : 1 < k
          ·obtain ⟨m, rfl⟩ : ∃ m, k = m + 1 := ⟨k - 1, by omega⟩
           obtain ⟨_, _, e9, -, -, c0⟩ := HRL.out.one (show m < t.labels.length by omega)
           simp only [Option.some.injEq, Addr.mk.injEq, and_true] at e9
           obtain ⟨rfl, rfl⟩ := e9
           simp only [encS, List.getElem?_cons_zero] at c0
           obtain ⟨s0, hs0⟩ : ∃ s0, s0 = t.labels[m] := ⟨_, rfl⟩
           rw [← hs0] at c0
           have HS0 := Lib.hid hs0
           clear hs0
           cases h3 : Op.bytesLess s0.toList s.toList
           ·have h4 : (Op.bytesLess s.toList s0.toList || s.toList == s0.toList) = true := by rw [less_leq, h3]; rfl
            have H3 := Lib.hid h3
            clear h3
            go_wp2_with fail
            refine (IsLabel_is H1.out _ hshk GR.out).mono ?_
            rintro e w2 ⟨rfl, hb2⟩
            have q2' := keeps hb2 (by omega) q2
            have c0' := keeps hb2 hbs c0
            have HB2 := Lib.hid (HBL.out.trans (hb2.mono hsz))
            clear hb2
            go_wp2_with fail
            go_ret
            refine ⟨false, rfl, ⟨(fun h => by cases h), fun h => ?_⟩, HB1.out.trans (HB2.out.mono HB1.out.size)⟩
            have h5 := h.labels.rise m hlt (by omega)
            unfold strLess at h5
            rw [← HS0.out, ← HS.out, H3.out] at h5
            cases h5
           ·have h4 : (Op.bytesLess s.toList s0.toList || s.toList == s0.toList) = false := by rw [less_leq, h3]; rfl
            have H3 := Lib.hid h3
            clear h3
            go_wp2_with fail
            refine (IsLabel_is H1.out _ hshk GR.out).mono ?_
            rintro e w2 ⟨rfl, hb2⟩
            have q2' := keeps hb2 (by omega) q2
            have c0' := keeps hb2 hbs c0
            have HB2 := Lib.hid (HBL.out.trans (hb2.mono hsz))
            clear hb2
            go_wp2_with fail
            go_roundw
            case rel => exact ⟨m + 1 + 1, by omega, by go_num, HB2.out, HGD.out.succ hlt (by rw [← HS.out]; exact H1.out) (by rw [H2.out, decide_eq_false (by omega)]) (fun _ => by
             unfold strLess
             simp only [Nat.add_sub_cancel]
             rw [← HS0.out, ← HS.out]; exact H3.out)⟩
            case measure => simp [intOf]; omega
          ·have hk2 : decide (1 < (k : Int)) = false := by rw [decide_eq_false_iff_not]; omega
           have hk3 : ¬ 1 < (k : Int) := by omega
           go_wp2_with fail
           refine (IsLabel_is H1.out _ hshk GR.out).mono ?_
           rintro e w2 ⟨rfl, hb2⟩
           have HB2 := Lib.hid (HBL.out.trans (hb2.mono hsz))
           clear hb2
           go_wp2_with fail
           go_roundw
           case rel => exact ⟨k + 1, by omega, by go_num, HB2.out, HGD.out.succ hlt (by rw [← HS.out]; exact H1.out) (by rw [H2.out, decide_eq_false (by omega)]) (fun h => absurd h hk1)⟩
           case measure => simp [intOf]; omega
        ·have H2 : Hid ((t.labels[k].toList == tauB) = true) := by unfold Hid; rw [← HS.out]; exact h2
         rcases Nat.eq_zero_or_pos k with hk0 | hk0
         ·have hz : ((k : Int) == 0) = true := by rw [beq_iff_eq]; omega
          have HK0 : Hid (k = 0) := hk0
          have hk2 : decide (1 < (k : Int)) = false := by rw [decide_eq_false_iff_not]; omega
          have hk3 : ¬ 1 < (k : Int) := by omega
          clear hk0
          go_wp2_with fail
          refine (IsLabel_is H1.out _ hshk GR.out).mono ?_
          rintro e w2 ⟨rfl, hb2⟩
          have HB2 := Lib.hid (HBL.out.trans (hb2.mono hsz))
          clear hb2
          go_wp2_with fail
          go_roundw
          case rel => exact ⟨k + 1, by omega, by go_num, HB2.out, HGD.out.succ hlt (by rw [← HS.out]; exact H1.out) (by rw [H2.out, decide_eq_true HK0.out]) (fun h => by have := HK0.out; omega)⟩
          case measure => simp [intOf]; omega
         ·have hz : ((k : Int) == 0) = false := by rw [beq_eq_false_iff_ne]; omega
          go_wp2_with fail
          refine (IsLabel_is H1.out _ hshk GR.out).mono ?_
          rintro e w2 ⟨rfl, hb2⟩
          have HB2 := Lib.hid (HBL.out.trans (hb2.mono hsz))
          clear hb2
          go_wp2_with fail
          go_ret
          refine ⟨false, rfl, ⟨(fun h => by cases h), fun h => ?_⟩, HB1.out.trans (HB2.out.mono HB1.out.size)⟩
          have h3 := h.labels.other k hlt hk0
          have h4 := H2.out
          exact absurd (by simpa using h4) h3
      ·obtain rfl : k = t.labels.length := by omega
       have HLO : Hid (LabelsOk t.labels) := HGD.out.all hC1.1 hC1.2
       have q3 := keeps hbl hbz Q3.out
       clear HGD hbl HLR1 HSH G1
       obtain ⟨w2, hw2⟩ : ∃ w2, w2 = wr := ⟨_, rfl⟩
       go_wp2_with fail
       go_loopw [67] (fun i wr2 => ∃ k : Nat, k ≤ t.edges.length ∧ i = .int .i64 k ∧ Below w1.heap.size w1 wr2 ∧ (∀ q (h : q < t.edges.length), q < k → EdgeOk t t.edges[q]) ∧ (∀ q (h : q + 1 < t.edges.length), q + 1 < k → edgeLess t.edges[q] t.edges[q + 1] = true)) (fun i _ => t.edges.length - (intOf i).toNat)
       case atStart => exact ⟨0, Nat.zero_le _, rfl, HBL.out, fun _ _ h => by omega, fun _ _ h => by omega⟩
       case round =>
        obtain ⟨k, hk, rfl, hbl, hx1, hx2⟩ := hrel
        have HX1 := Lib.hid hx1
        have HX2 := Lib.hid hx2
        have HBE := Lib.hid hbl
        have hsz := hbl.size
        have q0 := keeps hbl hbz Q0.out
        have q1 := keeps hbl hbz Q1.out
        have q2 := keeps hbl hbz Q2.out
        have q3 := keeps hbl hbz Q3.out
        clear hx1 hx2 hbl
        by_cases hlt : k < t.edges.length
        ·have hml := hen
         obtain ⟨be, oe, rfl, -, hbe, e1, e2, e3⟩ := (HER1.out.below HBE.out).edge hlt
         have HROW := Lib.hid (HER1.out.below HBE.out)
         have HE := Lib.hid (show EdgeOk t t.edges[k] ↔ (inB t.edges[k].src 0 (t.states - 1) = true ∧ inB t.edges[k].dst 0 (t.states - 1) = true) ∧ inB t.edges[k].lab 0 ((t.labels.length : Int) - 1) = true from edgeOk_iff t _)
         obtain ⟨e, hee⟩ : ∃ e, e = t.edges[k] := ⟨_, rfl⟩
         rw [← hee] at e1 e2 e3 HE
         have HEE := Lib.hid hee
         clear hee
         have HO : Below wr.heap.size wr (wr.alloc (.cells #[.int .i64 e.src, .int .i64 e.lab, .int .i64 e.dst] 67)) := (Below.refl _ _).alloc (Nat.le_refl _) _
         have s0 := later_cell (w0 := wr.alloc (.cells #[.int .i64 e.src, .int .i64 e.lab, .int .i64 e.dst] 67)) (b := b0) (by simp; omega) (keeps HO (by omega) q0)
         have s1 := later_cell (w0 := wr.alloc (.cells #[.int .i64 e.src, .int .i64 e.lab, .int .i64 e.dst] 67)) (b := b0) (by simp; omega) (keeps HO (by omega) q1)
         have s2 := later_cell (w0 := wr.alloc (.cells #[.int .i64 e.src, .int .i64 e.lab, .int .i64 e.dst] 67)) (b := b0) (by simp; omega) (keeps HO (by omega) q2)
         have s3 := later_cell (w0 := wr.alloc (.cells #[.int .i64 e.src, .int .i64 e.lab, .int .i64 e.dst] 67)) (b := b0) (by simp; omega) (keeps HO (by omega) q3)
         have t0 := later_cell (w0 := wr.alloc (.cells #[.int .i64 e.src, .int .i64 e.lab, .int .i64 e.dst] 67)) (b := wr.heap.size) (o := 0) (v := .int .i64 e.src) (by simp) (by simp)
         have t1 := later_cell (w0 := wr.alloc (.cells #[.int .i64 e.src, .int .i64 e.lab, .int .i64 e.dst] 67)) (b := wr.heap.size) (o := 1) (v := .int .i64 e.lab) (by simp) (by simp)
         have t2 := later_cell (w0 := wr.alloc (.cells #[.int .i64 e.src, .int .i64 e.lab, .int .i64 e.dst] 67)) (b := wr.heap.size) (o := 2) (v := .int .i64 e.dst) (by simp) (by simp)
         have HO2 := Lib.hid HO
         rcases Nat.eq_zero_or_pos k with hk0 | hk0
         ·have hkz : ¬ (0 : Int) < (k : Int) := by omega
          have hkd : decide ((0 : Int) < (k : Int)) = false := by rw [decide_eq_false_iff_not]; exact hkz
          have hkd2 : decide (0 < k) = false := by rw [decide_eq_false_iff_not]; omega
          have hkz2 : ¬ 0 < k := by omega
          have HK0 : Hid (k = 0) := hk0
          clear hk0 HO hml
          cases g1 : inB e.src 0 (t.states - 1)
          ·have HG := Lib.hid g1
           go_wp2_with fail
           refine wp_region_later (by kernel_rfl) (by kernel_rfl) ?_
           repeat (go_big_quiet_step ((first | (go_at_call 67; exact later_call (isState_any _ _ _ _ _ _ hA1 hA2)) | (go_at_call 69; exact later_same (index_in _ _ _ (by omega) (by omega))))))
           refine wpQuiet_nil ?_
           intro _ hw9
           obtain ⟨nl, hw8⟩ := hw9
           subst hw8
           go_wp2_with fail
           go_ret
           refine ⟨false, rfl, ⟨(fun h => by cases h), fun h => ?_⟩, HB1.out.trans ((HBE.out.trans ((HO2.out.trans (nl.h.mono (by simp))).mono hsz)).mono HB1.out.size)⟩
           have h2 := h.edge k hlt
           rw [← HEE.out, HE.out, HG.out] at h2
           exact absurd h2.1.1 (by simp)
          ·cases g2 : inB e.dst 0 (t.states - 1)
           ·have HG := Lib.hid g2
            go_wp2_with fail
            refine wp_region_later (by kernel_rfl) (by kernel_rfl) ?_
            repeat (go_big_quiet_step ((first | (go_at_call 67; exact later_call (isState_any _ _ _ _ _ _ hA1 hA2)) | (go_at_call 69; exact later_same (index_in _ _ _ (by omega) (by omega))))))
            refine wpQuiet_nil ?_
            intro _ hw9
            obtain ⟨nl, hw8⟩ := hw9
            subst hw8
            go_wp2_with fail
            go_ret
            refine ⟨false, rfl, ⟨(fun h => by cases h), fun h => ?_⟩, HB1.out.trans ((HBE.out.trans ((HO2.out.trans (nl.h.mono (by simp))).mono hsz)).mono HB1.out.size)⟩
            have h2 := h.edge k hlt
            rw [← HEE.out, HE.out, HG.out] at h2
            exact absurd h2.1.2 (by simp)
           ·cases g3 : inB e.lab 0 ((t.labels.length : Int) - 1)
            ·have HG := Lib.hid g3
             go_wp2_with fail
             refine wp_region_later (by kernel_rfl) (by kernel_rfl) ?_
             repeat (go_big_quiet_step ((first | (go_at_call 67; exact later_call (isState_any _ _ _ _ _ _ hA1 hA2)) | (go_at_call 69; exact later_same (index_in _ _ _ (by omega) (by omega))))))
             refine wpQuiet_nil ?_
             intro _ hw9
             obtain ⟨nl, hw8⟩ := hw9
             subst hw8
             go_wp2_with fail
             go_ret
             refine ⟨false, rfl, ⟨(fun h => by cases h), fun h => ?_⟩, HB1.out.trans ((HBE.out.trans ((HO2.out.trans (nl.h.mono (by simp))).mono hsz)).mono HB1.out.size)⟩
             have h2 := h.edge k hlt
             rw [← HEE.out, HE.out, HG.out] at h2
             exact absurd h2.2 (by simp)
            ·have HEK : Hid (EdgeOk t t.edges[k]) := by unfold Hid; rw [← HEE.out, HE.out]; exact ⟨⟨g1, g2⟩, g3⟩
             go_wp2_with fail
             refine wp_region_later (by kernel_rfl) (by kernel_rfl) ?_
             repeat (go_big_quiet_step ((first | (go_at_call 67; exact later_call (isState_any _ _ _ _ _ _ hA1 hA2)) | (go_at_call 69; exact later_same (index_in _ _ _ (by omega) (by omega))))))
             refine wpQuiet_nil ?_
             intro _ hw9
             obtain ⟨nl, hw8⟩ := hw9
             subst hw8
             clear g1 g2 g3 t0 t1 t2 s0 s1 s2 s3
             go_wp2_with fail
             go_roundw
             case rel => exact ⟨k + 1, by omega, by go_num, HBE.out.trans ((HO2.out.trans (nl.h.mono (by simp))).mono hsz), fun q h h' => by
               obtain rfl : q = k := by have := HK0.out; omega
               exact HEK.out, fun q h h' => by have := HK0.out; omega⟩
             case measure => simp [intOf]; omega
         ·obtain ⟨m, rfl⟩ : ∃ m, k = m + 1 := ⟨k - 1, by omega⟩
          obtain ⟨_, _, e9, -, -, d1, d2, d3⟩ := HROW.out.edge (show m < t.edges.length by omega)
          simp only [Option.some.injEq, Addr.mk.injEq, and_true] at e9
          obtain ⟨rfl, rfl⟩ := e9
          replace d1 := later_cell (w0 := wr.alloc (.cells #[.int .i64 e.src, .int .i64 e.lab, .int .i64 e.dst] 67)) (b := be) (by simp; omega) (keeps HO hbe d1)
          replace d2 := later_cell (w0 := wr.alloc (.cells #[.int .i64 e.src, .int .i64 e.lab, .int .i64 e.dst] 67)) (b := be) (by simp; omega) (keeps HO hbe d2)
          replace d3 := later_cell (w0 := wr.alloc (.cells #[.int .i64 e.src, .int .i64 e.lab, .int .i64 e.dst] 67)) (b := be) (by simp; omega) (keeps HO hbe d3)
          have hkd : decide ((0 : Int) < (m : Int) + 1) = true := by rw [decide_eq_true_eq]; omega
          clear hk0 HO hml
          cases g1 : inB e.src 0 (t.states - 1)
          ·have HG := Lib.hid g1
           go_wp2_with fail
           refine wp_region_later (by kernel_rfl) (by kernel_rfl) ?_
           repeat (go_big_quiet_step ((first | (go_at_call 67; exact later_call (isState_any _ _ _ _ _ _ hA1 hA2)) | (go_at_call 69; exact later_same (index_in _ _ _ (by omega) (by omega))) | (go_at_call 70; exact later_call (compareEdges_any t.edges[m] e _)))))
           refine wpQuiet_nil ?_
           intro _ hw9
           obtain ⟨nl, hw8⟩ := hw9
           subst hw8
           go_wp2_with fail
           go_ret
           refine ⟨false, rfl, ⟨(fun h => by cases h), fun h => ?_⟩, HB1.out.trans ((HBE.out.trans ((HO2.out.trans (nl.h.mono (by simp))).mono hsz)).mono HB1.out.size)⟩
           have h2 := h.edge (m + 1) hlt
           rw [← HEE.out, HE.out, HG.out] at h2
           exact absurd h2.1.1 (by simp)
          ·cases g2 : inB e.dst 0 (t.states - 1)
           ·have HG := Lib.hid g2
            go_wp2_with fail
            refine wp_region_later (by kernel_rfl) (by kernel_rfl) ?_
            repeat (go_big_quiet_step ((first | (go_at_call 67; exact later_call (isState_any _ _ _ _ _ _ hA1 hA2)) | (go_at_call 69; exact later_same (index_in _ _ _ (by omega) (by omega))) | (go_at_call 70; exact later_call (compareEdges_any t.edges[m] e _)))))
            refine wpQuiet_nil ?_
            intro _ hw9
            obtain ⟨nl, hw8⟩ := hw9
            subst hw8
            go_wp2_with fail
            go_ret
            refine ⟨false, rfl, ⟨(fun h => by cases h), fun h => ?_⟩, HB1.out.trans ((HBE.out.trans ((HO2.out.trans (nl.h.mono (by simp))).mono hsz)).mono HB1.out.size)⟩
            have h2 := h.edge (m + 1) hlt
            rw [← HEE.out, HE.out, HG.out] at h2
            exact absurd h2.1.2 (by simp)
           ·cases g3 : inB e.lab 0 ((t.labels.length : Int) - 1)
            ·have HG := Lib.hid g3
             go_wp2_with fail
             refine wp_region_later (by kernel_rfl) (by kernel_rfl) ?_
             repeat (go_big_quiet_step ((first | (go_at_call 67; exact later_call (isState_any _ _ _ _ _ _ hA1 hA2)) | (go_at_call 69; exact later_same (index_in _ _ _ (by omega) (by omega))) | (go_at_call 70; exact later_call (compareEdges_any t.edges[m] e _)))))
             refine wpQuiet_nil ?_
             intro _ hw9
             obtain ⟨nl, hw8⟩ := hw9
             subst hw8
             go_wp2_with fail
             go_ret
             refine ⟨false, rfl, ⟨(fun h => by cases h), fun h => ?_⟩, HB1.out.trans ((HBE.out.trans ((HO2.out.trans (nl.h.mono (by simp))).mono hsz)).mono HB1.out.size)⟩
             have h2 := h.edge (m + 1) hlt
             rw [← HEE.out, HE.out, HG.out] at h2
             exact absurd h2.2 (by simp)
            ·have HEK : Hid (EdgeOk t t.edges[m + 1]) := by unfold Hid; rw [← HEE.out, HE.out]; exact ⟨⟨g1, g2⟩, g3⟩
             cases g4 : edgeLess t.edges[m] e
             ·have HG := Lib.hid g4
              have g5 : decide (0 ≤ cmpE t.edges[m] e) = true := by rw [cmpE_less, g4]; rfl
              clear g4
              go_wp2_with fail
              refine wp_region_later (by kernel_rfl) (by kernel_rfl) ?_
              repeat (go_big_quiet_step ((first | (go_at_call 67; exact later_call (isState_any _ _ _ _ _ _ hA1 hA2)) | (go_at_call 69; exact later_same (index_in _ _ _ (by omega) (by omega))) | (go_at_call 70; exact later_call (compareEdges_any t.edges[m] e _)))))
              refine wpQuiet_nil ?_
              intro _ hw9
              obtain ⟨nl, hw8⟩ := hw9
              subst hw8
              go_wp2_with fail
              go_ret
              refine ⟨false, rfl, ⟨(fun h => by cases h), fun h => ?_⟩, HB1.out.trans ((HBE.out.trans ((HO2.out.trans (nl.h.mono (by simp))).mono hsz)).mono HB1.out.size)⟩
              have h2 := h.rise m hlt
              rw [← HEE.out, HG.out] at h2
              cases h2
             ·have HG := Lib.hid g4
              have g5 : decide (0 ≤ cmpE t.edges[m] e) = false := by rw [cmpE_less, g4]; rfl
              clear g4
              go_wp2_with fail
              refine wp_region_later (by kernel_rfl) (by kernel_rfl) ?_
              repeat (go_big_quiet_step ((first | (go_at_call 67; exact later_call (isState_any _ _ _ _ _ _ hA1 hA2)) | (go_at_call 69; exact later_same (index_in _ _ _ (by omega) (by omega))) | (go_at_call 70; exact later_call (compareEdges_any t.edges[m] e _)))))
              refine wpQuiet_nil ?_
              intro _ hw9
              obtain ⟨nl, hw8⟩ := hw9
              subst hw8
              clear g1 g2 g3 g5 t0 t1 t2 s0 s1 s2 s3 d1 d2 d3
              go_wp2_with fail
              go_roundw
              case rel => exact ⟨m + 1 + 1, by omega, by go_num, HBE.out.trans ((HO2.out.trans (nl.h.mono (by simp))).mono hsz), fun q h h' => by
                by_cases e9 : q = m + 1
                ·subst e9; exact HEK.out
                ·exact HX1.out q h (by omega), fun q h h' => by
                by_cases e9 : q = m
                ·subst e9; rw [← HEE.out]; exact HG.out
                ·exact HX2.out q h (by omega)⟩
              case measure => simp [intOf]; omega
        ·go_wp2_with fail
         go_ret
         refine ⟨true, rfl, ⟨fun _ => ?_, fun _ => rfl⟩, HB1.out.trans (HBE.out.mono HB1.out.size)⟩
         exact ⟨hA1, hA2, HI.out.1, HI.out.2, HLO.out, by omega, fun q h => HX1.out q h (by omega), fun q h => HX2.out q h (by omega)⟩

end Go.Proofs.YtmhpfmanagbggaaGreatDoor

namespace Go.Proofs.YtmhpfmanagbggaaGreatDoor
open Go Go.RowKit

theorem encA_encC (t : Lts) (es : List Edge) : es.flatMap (encA t) = (es.map (arcOf t)).flatMap encC := by
 rw [List.flatMap_map]
 rfl
theorem blk_new9 (w : World) : Blk (w.alloc (.cells #[.int .i64 0, .int .i64 0, .slice none 0 0, .slice none 0 0] 29)) w.heap.size [.int .i64 0, .int .i64 0, .slice none 0 0, .slice none 0 0] 29 := Blk.new w _ _
theorem box_below9 (w : World) (a : Array Value) (T : TypeId) : Below w.heap.size w (w.alloc (.cells a T)) := (Below.refl _ _).alloc (Nat.le_refl _) _
theorem own4 {w : World} {b : Nat} {x0 x1 x2 x3 v0 v1 v2 v3 : Value} (hb : Blk w b [x0, x1, x2, x3] 29) {base e size n : Nat} {v : Value} {xs : List Value} (ho : w.ownsRow base e size v n xs) (he : e ≠ 29) :
  ((((w.setCell ⟨b, 0, none⟩ v0).setCell ⟨b, 1, none⟩ v1).setCell ⟨b, 2, none⟩ v2).setCell ⟨b, 3, none⟩ v3).ownsRow base e size v n xs :=
 own_sets (own_sets (own_sets (own_sets ho hb he 0 _) (hb.set 0 v0) he 1 _) ((hb.set 0 v0).set 1 v1) he 2 _) (((hb.set 0 v0).set 1 v1).set 2 v2) he 3 _
theorem OwnIntss.set1 {eo ei lo : Nat} {w : World} {v : Value} {vs : List Value} {xss : List (List Int)} (h : OwnIntss eo ei lo w v vs xss) {b : Nat} {cs : List Value} {t : TypeId} (hb : Blk w b cs t) (he : eo ≠ t) (hi : ei ≠ t) (i : Nat) (u : Value) : OwnIntss eo ei lo (w.setCell ⟨b, i, none⟩ u) v vs xss :=
 h.kept (grown_setCell w ⟨b, i, none⟩ u) (own_type_ne h.2.1 hb he) (fun j hj => own_type_ne (h.2.2.1 j hj (by rw [← h.1]; exact hj)) hb hi)
theorem sys_short {t : Lts} {st : DNet} (hv : Valid t) (hG : DGood t st) (h : Short20 t.labels) : Short20 (sysOf t st).labels := by
 intro i hi
 have hm := ((used_is hv.labels (used_mem hG)).2 (sysOf t st).labels[i]).1 (List.getElem_mem hi)
 rcases List.mem_cons.1 hm with e | hm
 ·rw [e]; decide
 ·obtain ⟨j, hj, e⟩ := List.mem_iff_getElem.1 (used_mem hG _ hm)
  rw [← e]
  exact h j hj
theorem four_sets {w w8 : World} {b : Nat} {x0 x1 x2 x3 v0 v1 v2 v3 : Value} (hb : Blk w8 b [x0, x1, x2, x3] 29) (hB : Below w.heap.size w w8) (hw : w.heap.size ≤ b) :
  Below w.heap.size w ((((w8.setCell ⟨b, 0, none⟩ v0).setCell ⟨b, 1, none⟩ v1).setCell ⟨b, 2, none⟩ v2).setCell ⟨b, 3, none⟩ v3) ∧ Blk ((((w8.setCell ⟨b, 0, none⟩ v0).setCell ⟨b, 1, none⟩ v1).setCell ⟨b, 2, none⟩ v2).setCell ⟨b, 3, none⟩ v3) b [v0, v1, v2, v3] 29
   ∧ ∀ {base e size n : Nat} {v : Value} {xs : List Value}, w8.ownsRow base e size v n xs → e ≠ 29 → ((((w8.setCell ⟨b, 0, none⟩ v0).setCell ⟨b, 1, none⟩ v1).setCell ⟨b, 2, none⟩ v2).setCell ⟨b, 3, none⟩ v3).ownsRow base e size v n xs :=
 ⟨(((hB.setCell hw _).setCell hw _).setCell hw _).setCell hw _, (((hb.set 0 v0).set 1 v1).set 2 v2).set 3 v3,
  fun ho he => own_sets (own_sets (own_sets (own_sets ho hb he 0 _) (hb.set 0 v0) he 1 _) ((hb.set 0 v0).set 1 v1) he 2 _) (((hb.set 0 v0).set 1 v1).set 2 v2) he 3 _⟩

end Go.Proofs.YtmhpfmanagbggaaGreatDoor

namespace Go.Proofs.YtmhpfmanagbggaaGreatDoor
open Go Go.RowKit

def keyW (r : List Int) (y : Int) : ByteArray := ⟨(Lib.join [Lib.join ((wordsOf r).map (·.data.toList)) [44], Lib.itoa y] [32]).toArray⟩
theorem digit_32 : digit 32 = false := by decide
theorem digit_45 : digit 45 = false := by decide
theorem itoa_clean {y : Int} (h : 0 ≤ y) : ∀ x ∈ Lib.itoa y, digit x = true := by
 intro x hx
 obtain ⟨m, rfl⟩ : ∃ m : Nat, y = (m : Int) := ⟨y.toNat, by omega⟩
 rw [itoa_eq] at hx
 exact List.all_eq_true.1 (decDigits_digit m) x hx
theorem join_clean {r : List Int} (h : ∀ x ∈ r, 0 ≤ x) : ∀ x ∈ Lib.join ((wordsOf r).map (·.data.toList)) [44], (x == 32) = false := by
 have hw : ∀ w ∈ (wordsOf r).map (·.data.toList), ∀ x ∈ w, digit x = true := by
  intro w hw x hx
  unfold wordsOf at hw
  rw [List.map_map, List.mem_map] at hw
  obtain ⟨n, hn, rfl⟩ := hw
  exact itoa_clean (h n hn) x (by simpa using hx)
 generalize (wordsOf r).map (·.data.toList) = ws at hw
 induction ws with
 | nil => intro x hx; simp [Lib.join] at hx
 | cons a ws ih =>
  have ha : ∀ x ∈ a, (x == 32) = false := fun x hx => by
   cases he : (x == 32) with
   | false => rfl
   | true =>
    rw [beq_iff_eq] at he
    subst he
    have := hw a (by simp) 32 hx
    rw [digit_32] at this
    cases this
  cases ws with
  | nil => intro x hx; exact ha x (by simpa [Lib.join] using hx)
  | cons b ws =>
   intro x hx
   rw [show Lib.join (a :: b :: ws) [44] = a ++ 44 :: Lib.join (b :: ws) [44] from by simp [Lib.join], List.mem_append, List.mem_cons] at hx
   rcases hx with hx | hx | hx
   ·exact ha x hx
   ·subst hx; decide
   ·exact ih (fun w h => hw w (List.mem_cons_of_mem _ h)) x hx
theorem itoa_m1 : Lib.itoa (-1) = [45, 49] := by
 unfold Lib.itoa
 rw [show (-1 : Int).natAbs = 1 from rfl, Lib.decDigits_one (by decide)]
 rfl
theorem itoa_no32 {y : Int} (h : -1 ≤ y) : ∀ x ∈ Lib.itoa y, (x == 32) = false := by
 intro x hx
 by_cases h0 : 0 ≤ y
 ·cases he : (x == 32) with
  | false => rfl
  | true =>
   rw [beq_iff_eq] at he
   subst he
   have := itoa_clean h0 32 hx
   rw [digit_32] at this
   cases this
 ·obtain rfl : y = -1 := by omega
  rw [itoa_m1] at hx
  revert x
  decide
theorem itoaW_inj {a b : Int} (ha : -1 ≤ a) (hb : -1 ≤ b) (h : Lib.itoa a = Lib.itoa b) : a = b := by
 have hm : ∀ {z : Int}, 0 ≤ z → Lib.itoa z ≠ Lib.itoa (-1) := fun {z} hz e => by
  have h1 : (45 : UInt8) ∈ Lib.itoa (-1) := by rw [itoa_m1]; decide
  rw [← e] at h1
  have := itoa_clean hz 45 h1
  rw [digit_45] at this
  cases this
 by_cases h0 : 0 ≤ a
 ·by_cases h1 : 0 ≤ b
  ·obtain ⟨m, rfl⟩ : ∃ m : Nat, a = (m : Int) := ⟨a.toNat, by omega⟩
   obtain ⟨n, rfl⟩ : ∃ n : Nat, b = (n : Int) := ⟨b.toNat, by omega⟩
   rw [itoa_eq, itoa_eq] at h
   rw [decDigits_inj h]
  ·obtain rfl : b = -1 := by omega
   exact absurd h (hm h0)
 ·obtain rfl : a = -1 := by omega
  by_cases h1 : 0 ≤ b
  ·exact absurd h.symm (hm h1)
  ·omega
theorem keyW_inj {r s : List Int} {a b : Int} (hr : r ≠ []) (hs : s ≠ []) (pr : ∀ x ∈ r, 0 ≤ x) (ps : ∀ x ∈ s, 0 ≤ x) (ha : -1 ≤ a) (hb : -1 ≤ b) (h : keyW r a = keyW s b) : r = s ∧ a = b := by
 have h1 : Lib.join [Lib.join ((wordsOf r).map (·.data.toList)) [44], Lib.itoa a] [32] = Lib.join [Lib.join ((wordsOf s).map (·.data.toList)) [44], Lib.itoa b] [32] := by
  have := congrArg (fun x : ByteArray => x.data.toList) h
  simpa only [keyW, List.toList_toArray] using this
 have hcl : ∀ {q : List Int} {c : Int}, (∀ x ∈ q, 0 ≤ x) → -1 ≤ c → ∀ w ∈ [Lib.join ((wordsOf q).map (·.data.toList)) [44], Lib.itoa c], ∀ x ∈ w, (x == 32) = false := fun {q c} hq hc w hw => by
  rw [List.mem_cons, List.mem_singleton] at hw
  rcases hw with rfl | rfl
  ·exact join_clean hq
  ·exact itoa_no32 hc
 have h2 := split_join 32 _ (by simp) (hcl pr ha)
 rw [h1, split_join 32 _ (by simp) (hcl ps hb)] at h2
 simp only [List.cons.injEq, and_true] at h2
 refine ⟨keyT_inj hr hs pr ps ?_, itoaW_inj ha hb h2.2.symm⟩
 unfold keyT
 rw [h2.1]

end Go.Proofs.YtmhpfmanagbggaaGreatDoor
