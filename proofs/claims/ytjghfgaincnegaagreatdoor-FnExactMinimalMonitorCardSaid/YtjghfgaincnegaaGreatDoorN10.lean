/-
  Plain laws for lts within determinize: the labels in use, the edges by them, that they lead back.
  The least deterministic system, plainly: the search over the blocks of a partition.
  The reference's place of a text among texts.
  The reference's place of a number among numbers.
  A step by a label's number is the edge with it. Plain.
  Plain notions for a row that is written over in place: what is kept so far, what is still to be looked at.
  A rising list of edges with one edge more: plain, and how it lies in place.
-/
import Derived.Test.YtjghfgaincnegaaGreatDoorN7
import Derived.Test.YtjghfgaincnegaaGreatDoorN9
import Derived.Test.YtjghfgaincnegaaGreatDoorN6
import Derived.Test.YtjghfgaincnegaaGreatDoorN8
import Derived.Test.YtjghfgaincnegaaGreatDoorN3
import Derived.Test.YtjghfgaincnegaaGreatDoorN1
import Derived.Lib.SliceRun
import Derived.Lib.LazyBuf
namespace Go.Proofs.YtjghfgaincnegaaGreatDoor
open Go Go.RowKit

theorem tauT_list : tauT.toList = tauB := by rw [Lib.toList_data]; rfl
theorem labels_pair {ls : List ByteArray} (h : LabelsOk ls) : (ls.map (·.data.toList)).Pairwise fun a b => lessL a b = true := by
 rw [List.pairwise_map, List.pairwise_iff_getElem]
 intro i j hi hj hij
 rw [← Lib.toList_data, ← Lib.toList_data, lessL_iff]
 have hne : ls[i].toList ≠ ls[j].toList := fun e => by have := labels_inj h i j hi hj e; omega
 refine ⟨hne, ?_⟩
 by_cases h0 : i = 0
 ·subst h0; exact .inl (h.first hi)
 ·refine .inr ⟨h.other j hj (by omega), ?_⟩
  have := labels_less h i j (by omega) hij hj
  unfold strLess at this
  rw [less_lt, decide_eq_true_eq] at this
  exact this
/-- Labels in strict order, tau among them. -/
theorem labelsOk_of {L : List ByteArray} (hp : (L.map (·.data.toList)).Pairwise fun a b => lessL a b = true) (ht : tauT ∈ L) (hn : L.length ≤ 12) (hok : ∀ l ∈ L, l ≠ tauT → labelOk l.data.toList = true) : LabelsOk L := by
 rw [List.pairwise_map, List.pairwise_iff_getElem] at hp
 obtain ⟨k, hk, hkt⟩ := List.mem_iff_getElem.1 ht
 have h0 : k = 0 := by
  rcases Nat.eq_zero_or_pos k with h | h
  ·exact h
  ·have := hp 0 k (by omega) hk h
   rw [hkt, ← Lib.toList_data, ← Lib.toList_data, tauT_list, lessL_iff] at this
   rcases this.2 with h1 | h1
   ·exact absurd h1 this.1
   ·exact absurd rfl h1.1
 subst h0
 have hoth : ∀ i (h : i < L.length), 1 ≤ i → L[i].toList ≠ tauB := fun i hi h1 e => by
  have := hp 0 i hk hi (by omega)
  rw [hkt, ← Lib.toList_data, ← Lib.toList_data, tauT_list, e, lessL_irrefl] at this
  cases this
 refine ⟨by omega, hn, fun h => by rw [hkt, tauT_list], fun i hi h1 => hok _ (List.getElem_mem hi) (fun e => hoth i hi h1 (by rw [e, tauT_list])), hoth, fun i hi h1 => ?_⟩
 have := hp i (i + 1) (by omega) hi (by omega)
 rw [← Lib.toList_data, ← Lib.toList_data, lessL_iff] at this
 unfold strLess
 rw [less_lt, decide_eq_true_eq]
 rcases this.2 with h2 | h2
 ·exact absurd h2 (hoth i (by omega) h1)
 ·exact h2.2

/-- The labels in use. -/
theorem used_is {ls us : List ByteArray} (h : LabelsOk ls) (hu : ∀ l ∈ us, l ∈ ls) : LabelsOk (labSet (tauT :: us)) ∧ (∀ l, l ∈ labSet (tauT :: us) ↔ l ∈ tauT :: us) := by
 have h0 : tauT ∈ ls := by
  have : ls[0]'h.pos = tauT := toList_inj (by rw [h.first h.pos, tauT_list])
  rw [← this]
  exact List.getElem_mem _
 have he : labSet (tauT :: us) = ls.filter fun l => @decide (l ∈ tauT :: us) (Classical.propDecidable _) := by
  refine labSet_eq ?_ fun x => ?_
  ·rw [List.pairwise_map]
   exact List.Pairwise.filter _ (List.pairwise_map.1 (labels_pair h))
  ·rw [List.mem_filter, @decide_eq_true_eq _ (Classical.propDecidable _)]
   refine ⟨fun hx => ⟨?_, hx⟩, fun hx => hx.2⟩
   rcases List.mem_cons.1 hx with rfl | hx
   ·exact h0
   ·exact hu x hx
 have hm : ∀ l, l ∈ labSet (tauT :: us) ↔ l ∈ tauT :: us := fun l => by
  rw [he, List.mem_filter, @decide_eq_true_eq _ (Classical.propDecidable _)]
  refine ⟨fun hx => hx.2, fun hx => ⟨?_, hx⟩⟩
  rcases List.mem_cons.1 hx with rfl | hx
  ·exact h0
  ·exact hu l hx
 refine ⟨labelsOk_of ?_ ((hm _).2 (by simp)) ?_ fun l hl hne => ?_, hm⟩
 ·rw [he, List.pairwise_map]
  exact List.Pairwise.filter _ (List.pairwise_map.1 (labels_pair h))
 ·rw [he]
  exact Nat.le_trans (List.length_filter_le _ _) h.most
 ·have : l ∈ ls := by
   rcases List.mem_cons.1 ((hm l).1 hl) with rfl | hx
   ·exact absurd rfl hne
   ·exact hu l hx
  obtain ⟨i, hi, rfl⟩ := List.mem_iff_getElem.1 this
  rcases Nat.eq_zero_or_pos i with h1 | h1
  ·subst h1
   exact absurd (toList_inj (by rw [h.first hi, tauT_list])) hne
  ·exact h.label i hi h1
/-- In a list of labels in order, places go with the order. -/
theorem idxL_mono {L : List ByteArray} (h : LabelsOk L) {a b : ByteArray} (ha : a ∈ L) (hb : b ∈ L) (hl : lessL a.toList b.toList = true) : idxL L a < idxL L b := by
 obtain ⟨h1, h2, -⟩ := idxL_get ha
 obtain ⟨h3, h4, -⟩ := idxL_get hb
 have hp := labels_pair h
 rw [List.pairwise_map, List.pairwise_iff_getElem] at hp
 rcases Nat.lt_trichotomy (idxL L a) (idxL L b) with h5 | h5 | h5
 ·exact h5
 ·exfalso
  have : a = b := by rw [← h2, ← h4]; congr 1
  rw [this, lessL_irrefl] at hl
  cases hl
 ·exfalso
  have := hp _ _ h3 h1 h5
  rw [h2, h4, ← Lib.toList_data, ← Lib.toList_data] at this
  have h6 := lessL_trans _ _ _ hl this
  rw [lessL_irrefl] at h6
  cases h6
/-- The arcs of the net found. -/
def arcsOf (t : Lts) (st : DNet) : List Arc := st.edges.map (arcOf t)
theorem lab_get {t : Lts} {st : DNet} (hG : DGood t st) {e : Edge} (he : e ∈ st.edges) : ∃ h : e.lab.toNat < t.labels.length, labAt t e = t.labels[e.lab.toNat] ∧ (e.lab.toNat : Int) = e.lab := by
 have := hG.edges e he
 refine ⟨by omega, ?_, by omega⟩
 unfold labAt
 rw [List.getD_eq_getElem?_getD, List.getElem?_eq_getElem (by omega)]
 rfl
def Up (es : List Edge) : Prop := es.Pairwise fun a b => a.src < b.src ∨ (a.src = b.src ∧ a.lab < b.lab)
theorem rise_in {t : Lts} (hv : Valid t) {st : DNet} (hG : DGood t st) (hu : Up st.edges) {L : List ByteArray} (hL : LabelsOk L) (hm : ∀ e ∈ st.edges, labAt t e ∈ L) : RiseE ((arcsOf t st).map (edgeIn L)) := by
 unfold arcsOf RiseE
 rw [List.map_map, List.pairwise_map]
 refine List.Pairwise.imp_of_mem ?_ hu
 intro a b ha hb h
 rw [edgeLess_iff]
 rcases h with h | ⟨h, h2⟩
 ·exact .inl h
 ·refine .inr ⟨h, .inl ?_⟩
  obtain ⟨a1, a2, a3⟩ := lab_get hG ha
  obtain ⟨b1, b2, b3⟩ := lab_get hG hb
  have hp := labels_pair hv.labels
  rw [List.pairwise_map, List.pairwise_iff_getElem] at hp
  have h3 := hp _ _ a1 b1 (by omega)
  rw [← a2, ← b2, ← Lib.toList_data, ← Lib.toList_data] at h3
  have := idxL_mono hL (hm a ha) (hm b hb) h3
  simp only [Function.comp, edgeIn, arcOf]
  omega

/-- The system by the labels in use. -/
def sysOf (t : Lts) (st : DNet) : Lts := ⟨st.rows.length, 0, labSet (tauT :: (arcsOf t st).map Arc.lab), (arcsOf t st).map (edgeIn (labSet (tauT :: (arcsOf t st).map Arc.lab)))⟩
theorem used_mem {t : Lts} {st : DNet} (hG : DGood t st) : ∀ l ∈ (arcsOf t st).map Arc.lab, l ∈ t.labels := by
 intro l hl
 unfold arcsOf at hl
 rw [List.map_map, List.mem_map] at hl
 obtain ⟨e, he, rfl⟩ := hl
 obtain ⟨h1, h2, -⟩ := lab_get hG he
 simp only [Function.comp, arcOf]
 rw [h2]
 exact List.getElem_mem _
theorem arc_mem {t : Lts} (hv : Valid t) {st : DNet} (hG : DGood t st) : ∀ a ∈ arcsOf t st, a.lab ∈ (sysOf t st).labels := fun a ha => ((used_is hv.labels (used_mem hG)).2 _).2 (List.mem_cons_of_mem _ (List.mem_map.2 ⟨a, ha, rfl⟩))
theorem sys_rise {t : Lts} (hv : Valid t) {st : DNet} (hG : DGood t st) (hu : Up st.edges) : RiseE (sysOf t st).edges :=
 rise_in hv hG hu (used_is hv.labels (used_mem hG)).1 fun e he => arc_mem hv hG _ (List.mem_map.2 ⟨e, he, rfl⟩)
theorem sys_edge {t : Lts} (hv : Valid t) {st : DNet} (hG : DGood t st) : ∀ i (h : i < (sysOf t st).edges.length), EdgeOk (sysOf t st) (sysOf t st).edges[i] := by
 intro i hi
 have hi' : i < st.edges.length := by simpa [sysOf, arcsOf] using hi
 have he := List.getElem_mem hi'
 have h1 := hG.edges _ he
 have h2 := arc_mem hv hG (arcOf t st.edges[i]) (List.mem_map.2 ⟨_, he, rfl⟩)
 obtain ⟨h3, -, -⟩ := idxL_get h2
 have h4 : (sysOf t st).edges[i] = ⟨st.edges[i].src, (idxL (sysOf t st).labels (labAt t st.edges[i]) : Nat), st.edges[i].dst⟩ := by simp [sysOf, arcsOf, edgeIn, arcOf]
 rw [h4]
 refine ⟨h1.1.1, h1.1.2, h1.2.2.1, h1.2.2.2, by show (0 : Int) ≤ ((idxL _ _ : Nat) : Int); omega, ?_⟩
 show ((idxL (sysOf t st).labels (labAt t st.edges[i]) : Nat) : Int) < _
 have h5 : idxL (sysOf t st).labels (labAt t st.edges[i]) < (sysOf t st).labels.length := h3
 omega
theorem sys_valid {t : Lts} (hv : Valid t) {st : DNet} (hG : DGood t st) (hu : Up st.edges) : Valid (sysOf t st) ↔ DSmall st := by
 have hel : (sysOf t st).edges.length = st.edges.length := by simp [sysOf, arcsOf]
 constructor
 ·intro h
  refine ⟨?_, by have := h.most; omega⟩
  have := h.st1
  have h2 : (sysOf t st).states = (st.rows.length : Int) := rfl
  omega
 ·rintro ⟨h1, h2⟩
  have h0 := hG.some
  refine ⟨by show (1 : Int) ≤ (st.rows.length : Int); omega, by show (st.rows.length : Int) ≤ 40; omega, Int.le_refl 0, by show (0 : Int) < (st.rows.length : Int); omega, (used_is hv.labels (used_mem hG)).1, by omega, sys_edge hv hG, fun i hi => ?_⟩
  exact List.pairwise_iff_getElem.1 (sys_rise hv hG hu) i (i + 1) (by omega) hi (by omega)
end Go.Proofs.YtjghfgaincnegaaGreatDoor

namespace Go.Proofs.YtjghfgaincnegaaGreatDoor
open Go Go.RowKit

/-- A state's block. -/
def bkOf (p : List Int) (x : Int) : Int := p.getD x.toNat 0
structure MNet where
 rows : List Int
 edges : List Edge
def mplace (p S : List Int) (x : Int) : Nat := fstIx (S.map (bkOf p)) (bkOf p x)
def madd (p S : List Int) (x : Int) : List Int := if mplace p S x < S.length then S else S ++ [x]
def mstep (p : List Int) (i : Nat) (st : MNet) (e : Edge) : MNet := ⟨madd p st.rows e.dst, st.edges ++ [⟨(i : Int), e.lab, (mplace p st.rows e.dst : Int)⟩]⟩
def mrow (p : List Int) (i : Nat) (es : List Edge) (st : MNet) : MNet := es.foldl (mstep p i) st
def mAt (d : Lts) (p : List Int) : Nat → MNet
 | 0 => ⟨[0], []⟩
 | n + 1 => match (mAt d p n).rows[n]? with
  | none => mAt d p n
  | some k => mrow p n (outOf d k) (mAt d p n)
theorem mplace_le (p S : List Int) (x : Int) : mplace p S x ≤ S.length := by
 have := fstIx_le (S.map (bkOf p)) (bkOf p x)
 rwa [List.length_map] at this
theorem mplace_lt {p S : List Int} {x : Int} : mplace p S x < S.length ↔ bkOf p x ∈ S.map (bkOf p) := by
 constructor
 ·intro h
  refine Classical.byContradiction fun hn => ?_
  have := fstIx_not hn
  rw [List.length_map] at this
  unfold mplace at h
  omega
 ·intro h
  have := fstIx_lt h
  rwa [List.length_map] at this
theorem madd_old {p S : List Int} {x : Int} (h : bkOf p x ∈ S.map (bkOf p)) : madd p S x = S := by unfold madd; rw [if_pos (mplace_lt.2 h)]
theorem madd_new {p S : List Int} {x : Int} (h : bkOf p x ∉ S.map (bkOf p)) : madd p S x = S ++ [x] ∧ mplace p S x = S.length := by
 unfold madd
 refine ⟨by rw [if_neg fun k => h (mplace_lt.1 k)], ?_⟩
 have := fstIx_not h
 rwa [List.length_map] at this
theorem madd_len (p S : List Int) (x : Int) : S.length ≤ (madd p S x).length ∧ mplace p S x < (madd p S x).length := by
 by_cases h : bkOf p x ∈ S.map (bkOf p)
 ·rw [madd_old h]; exact ⟨Nat.le_refl _, mplace_lt.2 h⟩
 ·obtain ⟨h1, h2⟩ := madd_new h
  rw [h1, h2]; simp
theorem madd_prefix (p S : List Int) (x : Int) : ∃ t, madd p S x = S ++ t := by
 unfold madd
 split
 ·exact ⟨[], by simp⟩
 ·exact ⟨[x], rfl⟩
theorem mrow_cons (p : List Int) (i : Nat) (e : Edge) (es : List Edge) (st : MNet) : mrow p i (e :: es) st = mrow p i es (mstep p i st e) := rfl
theorem mrow_snoc (p : List Int) (i : Nat) (es : List Edge) (e : Edge) (st : MNet) : mrow p i (es ++ [e]) st = mstep p i (mrow p i es st) e := by unfold mrow; rw [List.foldl_append]; rfl
theorem mrow_prefix (p : List Int) (i : Nat) : ∀ (es : List Edge) (st : MNet), (∃ t, (mrow p i es st).rows = st.rows ++ t) ∧ (mrow p i es st).edges.length = st.edges.length + es.length
 | [], st => ⟨⟨[], by simp [mrow]⟩, by simp [mrow]⟩
 | e :: es, st => by
  obtain ⟨⟨t, ht⟩, h2⟩ := mrow_prefix p i es (mstep p i st e)
  obtain ⟨s, hs⟩ := madd_prefix p st.rows e.dst
  refine ⟨⟨s ++ t, ?_⟩, ?_⟩
  ·rw [mrow_cons, ht]
   show madd p st.rows e.dst ++ t = _
   rw [hs, List.append_assoc]
  ·rw [mrow_cons, h2]
   show (st.edges ++ _).length + _ = _
   simp; omega
/-- What holds of the search at each point. -/
structure MGood (d : Lts) (p : List Int) (st : MNet) : Prop where
 some : 0 < st.rows.length
 low : ∀ x ∈ st.rows, 0 ≤ x ∧ x < d.states
 nodup : (st.rows.map (bkOf p)).Nodup
 edges : ∀ e ∈ st.edges, (0 ≤ e.src ∧ e.src < st.rows.length) ∧ (1 ≤ e.lab ∧ e.lab < d.labels.length) ∧ 0 ≤ e.dst ∧ e.dst < st.rows.length
theorem MGood.step {d : Lts} {p : List Int} {st : MNet} (h : MGood d p st) {i : Nat} (hi : i < st.rows.length) {e : Edge} (h1 : 1 ≤ e.lab) (h2 : e.lab < d.labels.length) (h3 : 0 ≤ e.dst) (h4 : e.dst < d.states) : MGood d p (mstep p i st e) := by
 have hl := madd_len p st.rows e.dst
 refine ⟨by show 0 < (madd p st.rows e.dst).length; have := h.some; omega, ?_, ?_, ?_⟩
 ·intro x hx
  change x ∈ madd p st.rows e.dst at hx
  unfold madd at hx
  split at hx
  ·exact h.low x hx
  ·rcases List.mem_append.1 hx with k | k
   ·exact h.low x k
   ·rw [List.mem_singleton] at k; subst k; exact ⟨h3, h4⟩
 ·show ((madd p st.rows e.dst).map (bkOf p)).Nodup
  by_cases k : bkOf p e.dst ∈ st.rows.map (bkOf p)
  ·rw [madd_old k]; exact h.nodup
  ·rw [(madd_new k).1, List.map_append, List.map_cons, List.map_nil, List.nodup_append]
   refine ⟨h.nodup, by simp, ?_⟩
   intro a ha b hb
   rw [List.mem_singleton] at hb
   subst hb
   exact fun e => k (e ▸ ha)
 ·intro x hx
  rcases List.mem_append.1 hx with k | k
  ·have := h.edges x k
   exact ⟨⟨this.1.1, by have := this.1.2; show x.src < (((madd p st.rows e.dst).length : Nat) : Int); omega⟩, this.2.1, this.2.2.1, by have := this.2.2.2; show x.dst < (((madd p st.rows e.dst).length : Nat) : Int); omega⟩
  ·rw [List.mem_singleton] at k
   subst k
   refine ⟨⟨by simp, ?_⟩, ⟨h1, h2⟩, by simp, ?_⟩
   ·show (i : Int) < (((madd p st.rows e.dst).length : Nat) : Int); omega
   ·show ((mplace p st.rows e.dst : Nat) : Int) < (((madd p st.rows e.dst).length : Nat) : Int); omega
theorem MGood.row {d : Lts} {p : List Int} {i : Nat} : ∀ (es : List Edge) {st : MNet}, MGood d p st → i < st.rows.length → (∀ e ∈ es, (1 ≤ e.lab ∧ e.lab < d.labels.length) ∧ 0 ≤ e.dst ∧ e.dst < d.states) → MGood d p (mrow p i es st)
 | [], _, h, _, _ => h
 | e :: es, st, h, hi, he => by
  have h1 := he e (List.mem_cons_self ..)
  rw [mrow_cons]
  refine MGood.row es (h.step hi h1.1.1 h1.1.2 h1.2.1 h1.2.2) ?_ fun x hx => he x (List.mem_cons_of_mem _ hx)
  have := (madd_len p st.rows e.dst).1
  show i < (madd p st.rows e.dst).length
  omega
theorem out_ok {d : Lts} (hv : Valid d) (hs : Single d) {k : Int} : ∀ e ∈ outOf d k, (1 ≤ e.lab ∧ e.lab < d.labels.length) ∧ 0 ≤ e.dst ∧ e.dst < d.states := by
 intro e he
 obtain ⟨i, hi, rfl⟩ := List.mem_iff_getElem.1 (List.mem_filter.1 he).1
 have h1 := hv.edge i hi
 have h2 := hs.visible i hi
 exact ⟨⟨by have := h1.l0; omega, h1.l1⟩, h1.d0, h1.d1⟩
theorem MGood.at {d : Lts} {p : List Int} (hv : Valid d) (hs : Single d) : ∀ n, MGood d p (mAt d p n)
 | 0 => ⟨by simp [mAt], fun x hx => by
   have : x = 0 := by simpa [mAt] using hx
   subst this
   have := hv.st0
   exact ⟨Int.le_refl 0, by omega⟩, by simp [mAt], by simp [mAt]⟩
 | n + 1 => by
  rw [mAt]
  split
  ·exact MGood.at hv hs n
  ·next k hk => exact (MGood.at hv hs n).row _ (List.getElem?_eq_some_iff.1 hk).1 (out_ok hv hs)
/-- The search's net as a net of one-state sets. -/
def mNet (st : MNet) : DNet := ⟨st.rows.map ([·]), st.edges⟩
theorem mNet_good {d : Lts} {p : List Int} {st : MNet} (h : MGood d p st) : DGood d (mNet st) := by
 refine ⟨?_, by show 0 < (st.rows.map _).length; rw [List.length_map]; exact h.some, ?_, ?_⟩
 ·show (st.rows.map ([·])).Nodup
  rw [List.nodup_iff_pairwise_ne, List.pairwise_map]
  have h1 := h.nodup
  rw [List.nodup_iff_pairwise_ne, List.pairwise_map] at h1
  exact h1.imp fun {a b} hne e => hne (by rw [show a = b from by simpa using e])
 ·intro r hr
  obtain ⟨x, hx, rfl⟩ := List.mem_map.1 hr
  exact ⟨fun y hy => by rw [List.mem_singleton] at hy; subst hy; exact h.low _ hx, List.pairwise_singleton _ _, by simp⟩
 ·intro e he
  have := h.edges e he
  show (0 ≤ e.src ∧ e.src < (((st.rows.map ([·])).length : Nat) : Int)) ∧ _ ∧ 0 ≤ e.dst ∧ e.dst < (((st.rows.map ([·])).length : Nat) : Int)
  rw [List.length_map]
  exact this
/-- The moves by labels' numbers. -/
def goOf (d : Lts) (i k : Nat) : Int := goTo d (i : Int) (d.labels.getD (k + 1) ByteArray.empty)
theorem goOf_lt {d : Lts} (hv : Valid d) (i k : Nat) : -1 ≤ goOf d i k ∧ goOf d i k < d.states := goTo_range hv _ _
end Go.Proofs.YtjghfgaincnegaaGreatDoor

namespace Go.Proofs.YtjghfgaincnegaaGreatDoor
open Go Go.RowKit

theorem findIdx_hit {α : Type} {p : α → Bool} {l : List α} {k : Nat} (hk : k < l.length) (h1 : ∀ j (h : j < l.length), j < k → p l[j] = false) (h2 : p l[k] = true) : l.findIdx p = k := by
 rw [List.findIdx_eq hk]
 exact ⟨h2, fun j hj => h1 j (by omega) hj⟩
theorem findIdx_none {α : Type} {p : α → Bool} {l : List α} (h1 : ∀ j (h : j < l.length), p l[j] = false) : l.findIdx p = l.length := by
 rw [List.findIdx_eq_length]
 intro x hx
 obtain ⟨j, hj, rfl⟩ := List.mem_iff_getElem.1 hx
 exact h1 j hj

/-- The first place of a text among texts, or -1. -/
def textAt (ss : List ByteArray) (s : ByteArray) : Int := if ss.findIdx (fun t => t.toList == s.toList) < ss.length then (ss.findIdx (fun t => t.toList == s.toList) : Nat) else -1

set_option maxRecDepth 100000 in
set_option maxHeartbeats 1000000 in
theorem l11Find_any (lo : Nat) (v : Value) (ss : List ByteArray) (s : ByteArray) (w : World) (hv : SliceK 1 encS lo w v ss) : Calls Tryz.prog 125 #[v, .string s] w fun e w' => e = .returned (.int .i64 (textAt ss s)) ∧ Below w.heap.size w w' := by
 obtain ⟨a, cap, rfl, hn, hcap, hrow⟩ := hv
 go_enter Tryz.func125, Tryz.ntmps125
 go_wp2
 go_loopw [5] (fun i wr => ∃ k : Nat, k ≤ ss.length ∧ i = .int .i64 k ∧ Below w.heap.size w wr ∧ ∀ j (h : j < ss.length), j < k → (ss[j].toList == s.toList) = false) (fun i _ => ss.length - (intOf i).toNat)
 case atStart => exact ⟨0, Nat.zero_le _, rfl, Below.refl _ _, fun _ _ h => by omega⟩
 case round =>
  obtain ⟨k, hk, rfl, hbl, hx⟩ := hrel
  have HX := Lib.hid hx
  have HBL := Lib.hid hbl
  have hsz := hbl.size
  clear hx
  by_cases hlt : k < ss.length
  ·obtain ⟨b, o, rfl, -, hb, c⟩ := (hrow.below hbl).one hlt
   simp only [encS, List.getElem?_cons_zero] at c
   clear hrow hbl
   cases g : (ss[k].toList == s.toList)
   ·have HG := Lib.hid g
    go_wp2
    go_roundw
    case rel => exact ⟨k + 1, by omega, by go_num, HBL.out, fun j h h' => by
      by_cases e : j = k
      ·subst e; exact HG.out
      ·exact HX.out j h (by omega)⟩
    case measure => simp [intOf]; omega
   ·have HG : Hid (textAt ss s = (k : Int)) := by
     unfold Hid textAt
     rw [findIdx_hit hlt HX.out g, if_pos hlt]
    go_wp2
    go_ret
    exact ⟨ret_int HG.out.symm, HBL.out⟩
  ·clear hrow hbl
   go_wp2
   go_ret
   refine ⟨ret_int ?_, HBL.out⟩
   unfold textAt
   rw [findIdx_none (fun j h => HX.out j h (by omega)), if_neg (by omega)]

theorem textAt_some {ss : List ByteArray} {s : ByteArray} (h : ¬ textAt ss s < 0) : ∃ n : Nat, textAt ss s = n ∧ ∃ hn : n < ss.length, ss[n].toList = s.toList := by
 unfold textAt at h ⊢
 by_cases hlt : ss.findIdx (fun t => t.toList == s.toList) < ss.length
 ·rw [if_pos hlt]
  refine ⟨_, rfl, hlt, ?_⟩
  have := List.findIdx_getElem (p := fun t : ByteArray => t.toList == s.toList) (xs := ss) (w := hlt)
  exact eq_of_beq this
 ·rw [if_neg hlt] at h
  omega
theorem textAt_neg {ss : List ByteArray} {s : ByteArray} : textAt ss s < 0 ↔ (ss.any fun t => t.toList == s.toList) = false := by
 unfold textAt
 by_cases hlt : ss.findIdx (fun t => t.toList == s.toList) < ss.length
 ·rw [if_pos hlt]
  have h1 := List.findIdx_lt_length.1 hlt
  constructor
  ·intro h; omega
  ·intro h
   rw [List.any_eq_false] at h
   obtain ⟨x, hx, hp⟩ := h1
   exact absurd hp (h x hx)
 ·rw [if_neg hlt]
  refine ⟨fun _ => ?_, fun _ => by omega⟩
  rw [List.any_eq_false]
  intro x hx hp
  exact hlt (List.findIdx_lt_length.2 ⟨x, hx, hp⟩)


end Go.Proofs.YtjghfgaincnegaaGreatDoor

namespace Go.Proofs.YtjghfgaincnegaaGreatDoor
open Go Go.RowKit

/-- The first place of a number, or -1. -/
def placeI (xs : List Int) (n : Int) : Int := if xs.findIdx (fun x => x == n) < xs.length then (xs.findIdx (fun x => x == n) : Nat) else -1
set_option maxRecDepth 100000 in
set_option maxHeartbeats 1000000 in
theorem l11Place_any (lo : Nat) (v : Value) (xs : List Int) (n : Int) (w : World) (hv : SliceK 1 encI lo w v xs) : Calls Tryz.prog 46 #[v, .int .i64 n] w fun e w' => e = .returned (.int .i64 (placeI xs n)) ∧ Below w.heap.size w w' := by
 obtain ⟨a, cap, rfl, hn, hcap, hrow⟩ := hv
 go_enter Tryz.func46, Tryz.ntmps46
 go_wp2
 go_loopw [5] (fun i wr => ∃ k : Nat, k ≤ xs.length ∧ i = .int .i64 k ∧ Below w.heap.size w wr ∧ ∀ j (h : j < xs.length), j < k → (xs[j] == n) = false) (fun i _ => xs.length - (intOf i).toNat)
 case atStart => exact ⟨0, Nat.zero_le _, rfl, Below.refl _ _, fun _ _ h => by omega⟩
 case round =>
  obtain ⟨k, hk, rfl, hbl, hx⟩ := hrel
  have HX := Lib.hid hx
  have HBL := Lib.hid hbl
  have hsz := hbl.size
  clear hx
  by_cases hlt : k < xs.length
  ·obtain ⟨b, o, rfl, -, hb, c⟩ := (hrow.below hbl).one hlt
   simp only [encI, List.getElem?_cons_zero] at c
   clear hrow hbl
   cases g : (xs[k] == n)
   ·have HG := Lib.hid g
    go_wp2
    go_roundw
    case rel => exact ⟨k + 1, by omega, by go_num, HBL.out, fun j h h' => by
      by_cases e : j = k
      ·subst e; exact HG.out
      ·exact HX.out j h (by omega)⟩
    case measure => simp [intOf]; omega
   ·have HG : Hid (placeI xs n = (k : Int)) := by
     unfold Hid placeI
     rw [findIdx_hit hlt HX.out g, if_pos hlt]
    go_wp2
    go_ret
    exact ⟨ret_int HG.out.symm, HBL.out⟩
  ·clear hrow hbl
   go_wp2
   go_ret
   refine ⟨ret_int ?_, HBL.out⟩
   unfold placeI
   rw [findIdx_none (fun j h => HX.out j h (by omega)), if_neg (by omega)]

end Go.Proofs.YtjghfgaincnegaaGreatDoor

namespace Go.Proofs.YtjghfgaincnegaaGreatDoor
open Go Go.RowKit

/-- The step by a label's number is the edge with it. -/
theorem goTo_lab {d : Lts} (hv : Valid d) {x : Int} (hx : 0 ≤ x) {k : Nat} (hk : k < d.labels.length) : goTo d x d.labels[k] = (((outOf d x).find? fun e => e.lab == (k : Int)).map Edge.dst).getD (-1) := by
 unfold goTo
 rw [if_neg (by omega)]
 congr 2
 have he : ∀ e ∈ d.edges, hitB d x d.labels[k] e = ((e.src == x) && (e.lab == (k : Int))) := by
  intro e he
  obtain ⟨i, hi, rfl⟩ := List.mem_iff_getElem.1 he
  have hok := hv.edge i hi
  obtain ⟨hlt, hla⟩ := labAt_idx hok
  unfold hitB
  congr 1
  rw [hla]
  cases hb : (d.edges[i].lab == (k : Int)) with
  | true =>
   rw [beq_iff_eq] at hb
   have : d.edges[i].lab.toNat = k := by omega
   simp [this]
  | false =>
   rw [beq_eq_false_iff_ne] at hb ⊢
   intro e2
   have := labels_inj hv.labels _ _ hlt hk e2
   have := hok.l0
   omega
 unfold outOf
 rw [List.find?_filter]
 generalize d.edges = es at he
 induction es with
 | nil => rfl
 | cons a es ih =>
  rw [List.find?_cons, List.find?_cons, he a (by simp), ih (fun e h => he e (List.mem_cons_of_mem _ h))]
  simp only [Bool.decide_and, Bool.decide_eq_true]
theorem outTo_next {d : Lts} (hu : Up d.edges) (x : Int) (k : Nat) : outTo d x (k + 1) = outTo d x k ++ ((outOf d x).find? fun e => e.lab == (k : Int)).toList := by
 have := filter_next (k := (k : Int)) (out_up hu x)
 unfold outTo
 have h1 : ((k + 1 : Nat) : Int) = (k : Int) + 1 := by omega
 rw [h1]
 exact this

end Go.Proofs.YtjghfgaincnegaaGreatDoor

namespace Go.Proofs.YtjghfgaincnegaaGreatDoor
open Go Go.RowKit

/-- A block with room for c elements of one cell; the first n of them are cs. -/
structure CellsAt (w : World) (g : Nat) (T : TypeId) (n c : Nat) (cs : List Value) : Prop where
 blk : ∃ rest : List Value, Blk w g (cs ++ rest) T ∧ cs.length + rest.length = c
 len : cs.length = n
theorem CellsAt.lt {w : World} {g n c : Nat} {T : TypeId} {cs : List Value} (h : CellsAt w g T n c cs) : g < w.heap.size := by obtain ⟨r, hr, -⟩ := h.blk; exact hr.lt
theorem CellsAt.below {w w' : World} {g n c : Nat} {T : TypeId} {cs : List Value} (h : CellsAt w g T n c cs) (hb : Below w.heap.size w w') : CellsAt w' g T n c cs := by
 obtain ⟨r, hr, hl⟩ := h.blk
 exact ⟨⟨r, hr.below hb, hl⟩, h.len⟩
theorem CellsAt.cell {w : World} {g n c : Nat} {T : TypeId} {cs : List Value} (h : CellsAt w g T n c cs) (i : Nat) (hi : i < n) : w.cell? ⟨g, i, none⟩ = cs[i]? := by
 obtain ⟨r, hr, -⟩ := h.blk
 have hi2 : i < cs.length := by rw [h.len]; exact hi
 rw [hr.cell i (v := cs[i]) (by rw [List.getElem?_append_left hi2, List.getElem?_eq_getElem hi2]), List.getElem?_eq_getElem hi2]
theorem CellsAt.frozen {w : World} {g n c : Nat} {T : TypeId} {cs : List Value} (h : CellsAt w g T n c cs) (i : Nat) : w.frozen? ⟨g, i, none⟩ = false := by
 obtain ⟨r, hr, -⟩ := h.blk
 exact hr.frozen i
theorem CellsAt.set {w : World} {g n c : Nat} {T : TypeId} {cs : List Value} (h : CellsAt w g T n c cs) (i : Nat) (hi : i < n) (v : Value) : CellsAt (w.setCell ⟨g, i, none⟩ v) g T n c (cs.set i v) := by
 obtain ⟨r, hr, hl⟩ := h.blk
 have hi2 : i < cs.length := by rw [h.len]; exact hi
 refine ⟨⟨r, ?_, by rw [List.length_set]; exact hl⟩, by rw [List.length_set]; exact h.len⟩
 have := hr.set i v
 rwa [List.set_append_left _ _ hi2] at this
theorem CellsAt.sets {g n c : Nat} {T : TypeId} (z : Value) : ∀ (m i : Nat) {w : World} {cs : List Value}, CellsAt w g T n c cs → i + m = n → CellsAt (w.setCells g i (List.replicate m z)) g T n c (cs.take i ++ List.replicate m z)
 | 0, i, w, cs, h, hi => by
  have : cs.take i = cs := List.take_of_length_le (by rw [h.len]; omega)
  rw [List.replicate_zero, List.append_nil, this]
  exact h
 | m + 1, i, w, cs, h, hi => by
  have h1 := CellsAt.sets z m (i + 1) (h.set i (by omega) z) (by omega)
  have hil : i < cs.length := by rw [h.len]; omega
  rw [List.replicate_succ, World.setCells]
  have e : (cs.set i z).take (i + 1) = cs.take i ++ [z] := by
   rw [List.take_succ_eq_append_getElem (by rw [List.length_set]; exact hil), List.getElem_set_self, List.take_set_of_le (Nat.le_refl _)]
  rw [e, List.append_assoc] at h1
  exact h1
theorem CellsAt.clear {w : World} {g n c i : Nat} {T : TypeId} {cs : List Value} {z : Value} (h : CellsAt w g T n c cs) (hi : i < n) : CellsAt (w.setCells g i (List.replicate (n - i) z)) g T n c (cs.take i ++ List.replicate (n - i) z) := CellsAt.sets z (n - i) i h (by omega)
theorem CellsAt.of_owns {w : World} {B g n c : Nat} {T : TypeId} {cs : List Value} (h : w.ownsRow B T 1 (.slice (some ⟨g, 0, none⟩) n c) n cs) : CellsAt w g T n c cs := by
 obtain ⟨h0, ⟨h, -⟩ | ⟨g', cap, cur, e, -, hg, hc, -, hs, ht⟩⟩ := h
 ·cases h
 ·simp only [Value.slice.injEq, Option.some.injEq, Addr.mk.injEq, and_true, true_and] at e
  obtain ⟨rfl, rfl⟩ := e
  rw [Nat.mul_one] at h0 hs ht
  refine ⟨⟨cur.toList.drop n, ?_, ?_⟩, h0⟩
  ·unfold Blk
   rw [← ht, List.take_append_drop]
   simpa using hg
  ·rw [List.length_drop, h0, Array.length_toList, hs]
   omega
end Go.Proofs.YtjghfgaincnegaaGreatDoor

namespace Go.Proofs.YtjghfgaincnegaaGreatDoor
open Go Go.RowKit

section
variable {α : Type}
/-- While the tail is moved up: something at the place k. -/
def shiftG (L : List α) (j : α) (k : Nat) : List α := L.take k ++ j :: L.drop k
theorem shiftG_len {L : List α} (j : α) (k : Nat) : (shiftG L j k).length = L.length + 1 := by
 unfold shiftG
 rw [List.length_append, List.length_cons, ← Nat.add_assoc, ← List.length_append, List.take_append_drop]
theorem shiftG_end (L : List α) (j : α) : L ++ [j] = shiftG L j L.length := by simp [shiftG]
theorem shiftG_get {L : List α} {j : α} {k : Nat} (h1 : 1 ≤ k) (hk : k ≤ L.length) : (shiftG L j k)[k - 1]? = some (L[k - 1]'(by omega)) := by
 unfold shiftG
 rw [List.getElem?_append_left (by rw [List.length_take]; omega), List.getElem?_take, if_pos (by omega), List.getElem?_eq_getElem (by omega)]
theorem shiftG_set {L : List α} {j : α} {k : Nat} (h1 : 1 ≤ k) (hk : k ≤ L.length) : (shiftG L j k).set k (L[k - 1]'(by omega)) = shiftG L (L[k - 1]'(by omega)) (k - 1) := by
 unfold shiftG
 have hl : (L.take k).length = k := by rw [List.length_take]; omega
 rw [List.set_append_right _ _ (by omega), hl, Nat.sub_self, List.set_cons_zero]
 have h2 : L.take k = L.take (k - 1) ++ [L[k - 1]'(by omega)] := by
  have := List.take_succ_eq_append_getElem (l := L) (i := k - 1) (by omega)
  rw [show k - 1 + 1 = k from by omega] at this
  exact this
 have h3 : L.drop (k - 1) = L[k - 1]'(by omega) :: L.drop k := by
  have := List.drop_eq_getElem_cons (l := L) (i := k - 1) (by omega)
  rw [show k - 1 + 1 = k from by omega] at this
  exact this
 rw [h2, h3, List.append_assoc]
 rfl
theorem shiftG_put {L : List α} {j x : α} {k : Nat} (hk : k ≤ L.length) : (shiftG L j k).set k x = L.take k ++ x :: L.drop k := by
 unfold shiftG
 have hl : (L.take k).length = k := by rw [List.length_take]; omega
 rw [List.set_append_right _ _ (by omega), hl, Nat.sub_self, List.set_cons_zero]
end

theorem put_rise {E : List Edge} {e : Edge} {k : Nat} (hr : RiseE E) (hk : k ≤ E.length) (hhi : ∀ j (h : j < E.length), k ≤ j → edgeLess e E[j] = true) (hlo : ∀ h : 0 < k, edgeLess (E[k - 1]'(by omega)) e = true) : RiseE (E.take k ++ e :: E.drop k) := by
 have hp := List.pairwise_iff_getElem.1 hr
 unfold RiseE
 rw [List.pairwise_append, List.pairwise_cons]
 have hdrop : ∀ x ∈ E.drop k, edgeLess e x = true := by
  intro x hx
  obtain ⟨i, hi, rfl⟩ := List.mem_iff_getElem.1 hx
  rw [List.getElem_drop]
  rw [List.length_drop] at hi
  exact hhi _ (by omega) (by omega)
 have htake : ∀ x ∈ E.take k, edgeLess x e = true := by
  intro x hx
  obtain ⟨i, hi, rfl⟩ := List.mem_iff_getElem.1 hx
  rw [List.length_take] at hi
  rw [List.getElem_take]
  have h0 : 0 < k := by omega
  by_cases e1 : i = k - 1
  ·have := hlo h0
   subst e1
   exact this
  ·exact edgeLess_trans _ _ _ (hp i (k - 1) (by omega) (by omega) (by omega)) (hlo h0)
 refine ⟨hr.sublist (List.take_sublist _ _), ⟨hdrop, hr.sublist (List.drop_sublist _ _)⟩, fun a ha b hb => ?_⟩
 rcases List.mem_cons.1 hb with rfl | hb
 ·exact htake a ha
 ·exact edgeLess_trans _ _ _ (htake a ha) (hdrop b hb)
theorem put_mem {E : List Edge} {e : Edge} {k : Nat} (x : Edge) : x ∈ E.take k ++ e :: E.drop k ↔ x ∈ E ∨ x = e := by
 rw [List.mem_append, List.mem_cons]
 have h : x ∈ E ↔ x ∈ E.take k ∨ x ∈ E.drop k := by rw [← List.mem_append, List.take_append_drop]
 rw [h]
 constructor
 ·rintro (h | h | h)
  ·exact .inl (.inl h)
  ·exact .inr h
  ·exact .inl (.inr h)
 ·rintro ((h | h) | h)
  ·exact .inl h
  ·exact .inr (.inr h)
  ·exact .inr (.inl h)
theorem put_len {E : List Edge} (e : Edge) (k : Nat) : (E.take k ++ e :: E.drop k).length = E.length + 1 := by
 have := shiftG_len (L := E) e k
 unfold shiftG at this
 exact this

theorem flat_set : ∀ (E : List Edge) (k : Nat) (x : Edge), k < E.length → (((E.flatMap encE).set (k * 3) (.int .i64 x.src)).set (k * 3 + 1) (.int .i64 x.lab)).set (k * 3 + 2) (.int .i64 x.dst) = (E.set k x).flatMap encE
 | [], _, _, h => by simp at h
 | a :: E, 0, x, _ => by simp [encE]
 | a :: E, k + 1, x, h => by
  have ih := flat_set E k x (by simpa using h)
  rw [show (k + 1) * 3 = k * 3 + 3 from by omega]
  simp only [List.flatMap_cons, encE, List.cons_append, List.nil_append, List.set_cons_succ, List.cons.injEq, true_and]
  exact ih
theorem flat_get : ∀ (E : List Edge) (k : Nat) (h : k < E.length), (E.flatMap encE)[k * 3]? = some (.int .i64 E[k].src) ∧ (E.flatMap encE)[k * 3 + 1]? = some (.int .i64 E[k].lab) ∧ (E.flatMap encE)[k * 3 + 2]? = some (.int .i64 E[k].dst)
 | [], _, h => by simp at h
 | a :: E, 0, _ => by simp [encE]
 | a :: E, k + 1, h => by
  have ih := flat_get E k (by simpa using h)
  rw [show (k + 1) * 3 = k * 3 + 3 from by omega]
  simpa [List.flatMap_cons, encE] using ih

theorem CellsAt.of_owns3 {w : World} {B g n c : Nat} {T : TypeId} {cs : List Value} (h : w.ownsRow B T 3 (.slice (some ⟨g, 0, none⟩) n c) n cs) : CellsAt w g T (n * 3) (c * 3) cs := by
 obtain ⟨h0, ⟨h, -⟩ | ⟨g', cap, cur, e, -, hg, hc, -, hs, ht⟩⟩ := h
 ·cases h
 ·simp only [Value.slice.injEq, Option.some.injEq, Addr.mk.injEq, and_true, true_and] at e
  obtain ⟨rfl, rfl⟩ := e
  refine ⟨⟨cur.toList.drop (n * 3), ?_, ?_⟩, h0⟩
  ·unfold Blk
   rw [← ht, List.take_append_drop]
   simpa using hg
  ·rw [List.length_drop, h0, Array.length_toList, hs]
   omega
theorem CellsAt.owns3 {w : World} {B g n c : Nat} {T : TypeId} {cs : List Value} (h : CellsAt w g T (n * 3) (c * 3) cs) (hB : B ≤ g) (hn : n ≤ c) (hc : c ≤ 9223372036854775807) : w.ownsRow B T 3 (.slice (some ⟨g, 0, none⟩) n c) n cs := by
 obtain ⟨r, hr, hl⟩ := h.blk
 have hlen := h.len
 refine ⟨hlen, .inr ⟨g, c, (cs ++ r).toArray, rfl, hB, hr, hn, by simpa [maxLen] using hc, by simp; omega, ?_⟩⟩
 rw [List.toList_toArray, List.take_append_of_le_length (by omega), List.take_of_length_le (by omega)]
/-- The edges in a block of the call's own. -/
def EdgesAt (w : World) (g n c : Nat) (E : List Edge) : Prop := CellsAt w g 78 (n * 3) (c * 3) (E.flatMap encE)
theorem EdgesAt.put {w : World} {g n c : Nat} {E : List Edge} (h : EdgesAt w g n c E) (hn : E.length = n) {k : Nat} (hk : k < n) (x : Edge) :
  EdgesAt (((w.setCell ⟨g, k * 3, none⟩ (.int .i64 x.src)).setCell ⟨g, k * 3 + 1, none⟩ (.int .i64 x.lab)).setCell ⟨g, k * 3 + 2, none⟩ (.int .i64 x.dst)) g n c (E.set k x) := by
 unfold EdgesAt at h ⊢
 rw [← flat_set E k x (by omega)]
 exact ((h.set (k * 3) (by omega) _).set (k * 3 + 1) (by omega) _).set (k * 3 + 2) (by omega) _
theorem EdgesAt.get {w : World} {g n c : Nat} {E : List Edge} (h : EdgesAt w g n c E) (hn : E.length = n) {k : Nat} (hk : k < n) {x : Edge} (hx : E[k]? = some x) : w.cell? ⟨g, k * 3, none⟩ = some (.int .i64 x.src) ∧ w.cell? ⟨g, k * 3 + 1, none⟩ = some (.int .i64 x.lab) ∧ w.cell? ⟨g, k * 3 + 2, none⟩ = some (.int .i64 x.dst) := by
 have hk2 : k < E.length := by omega
 obtain ⟨h1, h2, h3⟩ := flat_get E k hk2
 rw [List.getElem?_eq_getElem hk2] at hx
 cases hx
 exact ⟨by rw [CellsAt.cell h _ (by omega)]; exact h1, by rw [CellsAt.cell h _ (by omega)]; exact h2, by rw [CellsAt.cell h _ (by omega)]; exact h3⟩
/-- Written in one block only. -/
theorem grown_sets {w w' : World} {g a b c : Nat} {x y z : Value} {row : Option Nat} (h : w.grownBy w' row) (hg : row = some g ∨ w.heap.size ≤ g) : w.grownBy (((w'.setCell ⟨g, a, none⟩ x).setCell ⟨g, b, none⟩ y).setCell ⟨g, c, none⟩ z) row := by
 have one : ∀ {w1 : World} (p : Nat) (u : Value), w.grownBy w1 row → w.grownBy (w1.setCell ⟨g, p, none⟩ u) row := by
  intro w1 p u h1
  have h2 := grown_setCell w1 ⟨g, p, none⟩ u
  refine ⟨h2.os.trans h1.os, h2.tape.trans h1.tape, h2.output.trans h1.output, Nat.le_trans h1.size h2.size, fun k hk hne => ?_⟩
  rw [h2.block k (Nat.lt_of_lt_of_le hk h1.size) (by
   intro e
   simp only [Option.some.injEq] at e
   rcases hg with hg | hg
   ·exact hne (by rw [hg, e])
   ·omega)]
  exact h1.block k hk hne
 exact one _ _ (one _ _ (one _ _ h))

end Go.Proofs.YtjghfgaincnegaaGreatDoor
