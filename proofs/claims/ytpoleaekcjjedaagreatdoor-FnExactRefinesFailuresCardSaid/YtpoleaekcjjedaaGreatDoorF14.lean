/-
  The states of the deterministic system in the order found, and the first word that leads to each. Plain.
  What states offer, stable states, and where one system does not refine another one. Plain.
  The states behind a trace, and their place among the sets of the deterministic system; the first label that can and cannot follow. Plain.
  What a state offers, as the reference lists it; lists of texts that grow.
  The library's Index and Contains at a slice of texts.
  The library's slices.IndexFunc and slices.ContainsFunc at a slice of numbers, with a function that may lay blocks of its own.
  Plain notions for a row that is written over in place: what is kept so far, what is still to be looked at.
  The library's slices.DeleteFunc at a row of numbers of the call's own, with a function that may lay blocks of its own.
-/
import Derived.Test.YtpoleaekcjjedaaGreatDoorF10
import Derived.Test.YtpoleaekcjjedaaGreatDoorF13
import Derived.Test.YtpoleaekcjjedaaGreatDoorF11
import Derived.Test.YtpoleaekcjjedaaGreatDoorF8
import Derived.Test.YtpoleaekcjjedaaGreatDoorProg
import Derived.Test.YtpoleaekcjjedaaGreatDoorF1
import Derived.Lib.SliceRun
import Derived.Lib.LazyBuf
namespace Go.Proofs.YtpoleaekcjjedaaGreatDoor
open Go Go.RowKit

theorem bothL_self {d : Lts} (h : LabelsOk d.labels) : bothL d d = d.labels := by
 unfold bothL
 refine labSet_eq (labels_pair h) fun x => ?_
 have h0 : tauT ∈ d.labels := by
  have : d.labels[0]'h.pos = tauT := toList_inj (by rw [h.first h.pos, tauT_list])
  rw [← this]
  exact List.getElem_mem _
 rw [List.mem_cons, List.mem_append]
 exact ⟨fun hx => hx.elim (fun e => e ▸ h0) (fun hx => hx.elim id id), fun hx => .inr (.inl hx)⟩
theorem difS_twin (d : Lts) (L : List ByteArray) : ∀ u, (difS d d L u).2 = (difS d d L u).1
 | [] => rfl
 | k :: u => by rw [difS_cons]; simp only; rw [difS_twin d L u]

/-- The words found when i states are done, of the next one k labels. -/
structure WaySt (t : Lts) (st : DNet) (N : List (List Nat)) (i k : Nat) : Prop where
 nst : NSt ((0 : Int), (0 : Int)) (goBoth (dSys t st) (dSys t st) t.labels) (t.labels.length - 1) deadB (fun _ => False) N i k
 num : ∀ (j : Nat) (u : List Nat), N[j]? = some u → difS (dSys t st) (dSys t st) t.labels u = ((j : Int), (j : Int))
 len : ∀ cur, (dAt t i).rows[i]? = some cur → N.length = (dmid t i cur (dAt t i) k).rows.length
 last : i = st.rows.length → N.length = st.rows.length
 upto : i ≤ st.rows.length
 few : N.length ≤ st.rows.length
theorem WaySt.start {t : Lts} {st : DNet} (hv : Valid t) (h : DOk t st) : WaySt t st [[]] 0 0 := by
 have hG := (dok_good hv h).some
 refine ⟨NSt.start (by rintro ⟨h1, -⟩; exact absurd h1 (by decide)) (fun h => h), fun j u hu => ?_, fun cur _ => ?_, fun e => by omega, Nat.zero_le _, ?_⟩
 ·have hj := (List.getElem?_eq_some_iff.1 hu).1
  simp at hj
  subst hj
  simp at hu
  subst hu
  rfl
 ·rw [dmid_zero]; simp [dAt]
 ·simp; omega
theorem WaySt.at {t : Lts} {st : DNet} {N : List (List Nat)} {i k : Nat} (h : WaySt t st N i k) {u : List Nat} (hu : N[i]? = some u) (k' : Nat) : difS (dSys t st) (dSys t st) t.labels (k' :: u) = (goTo (dSys t st) i (labK t.labels k'), goTo (dSys t st) i (labK t.labels k')) := by
 rw [difS_cons, h.num i u hu]
theorem WaySt.pass {t : Lts} {st : DNet} (hv : Valid t) (hok : DOk t st) {N : List (List Nat)} {i k : Nat} (h : WaySt t st N i k) {u : List Nat} (hu : N[i]? = some u) (hk : k + 1 < t.labels.length)
  (hd : goTo (dSys t st) i (labK t.labels k) < 0 ∨ ∃ j : Nat, j < N.length ∧ goTo (dSys t st) i (labK t.labels k) = j) : WaySt t st N i (k + 1) := by
 have hi : i < st.rows.length := Nat.lt_of_lt_of_le (List.getElem?_eq_some_iff.1 hu).1 h.few
 obtain ⟨cur, hc, hcs, hle, hlast⟩ := hok.row hi
 have hat := h.at hu k
 refine ⟨h.nst.pass hu ?_, h.num, fun cur' hc' => ?_, h.last, h.upto, h.few⟩
 ·rcases hd with hd | ⟨j, hj, he⟩
  ·exact .inl (by show deadB (difS _ _ _ (k :: u)); rw [hat]; exact ⟨hd, hd⟩)
  ·refine .inr ⟨N[j], List.getElem_mem _, ?_⟩
   show difS _ _ _ N[j] = difS _ _ _ (k :: u)
   rw [hat, h.num j N[j] (List.getElem?_eq_getElem hj), he]
 ·rw [hc] at hc'
  cases hc'
  rw [dmid_succ, h.len cur hc]
  by_cases hne : nextS t cur ((k : Int) + 1) = []
  ·rw [dstep_none hne]
  ·have hp := go_place hv hok hc hi hk hne
   rcases hd with hd | ⟨j, hj, he⟩
   ·rw [hp] at hd; omega
   ·rw [dstep_old hne (by rw [← h.len cur hc]; rw [hp] at he; omega)]
theorem WaySt.meet {t : Lts} {st : DNet} (hv : Valid t) (hok : DOk t st) {N : List (List Nat)} {i k : Nat} (h : WaySt t st N i k) {u : List Nat} (hu : N[i]? = some u) (hk : k + 1 < t.labels.length)
  (h0 : ¬ goTo (dSys t st) i (labK t.labels k) < 0) (hn : ∀ j : Nat, j < N.length → goTo (dSys t st) i (labK t.labels k) ≠ j) : goTo (dSys t st) i (labK t.labels k) = N.length ∧ WaySt t st (N ++ [k :: u]) i (k + 1) := by
 have hi : i < st.rows.length := Nat.lt_of_lt_of_le (List.getElem?_eq_some_iff.1 hu).1 h.few
 obtain ⟨cur, hc, hcs, hle, hlast⟩ := hok.row hi
 have hat := h.at hu k
 have hlen := h.len cur hc
 have hne : nextS t cur ((k : Int) + 1) ≠ [] := fun e => by
  rcases go_row hv hok hcs hk with ⟨-, h2⟩ | ⟨h1, -⟩
  ·omega
  ·exact h1 e
 have hp := go_place hv hok hc hi hk hne
 have hpl := dplace_le (dmid t i cur (dAt t i) k).rows (nextS t cur ((k : Int) + 1))
 have hpn : ¬ dplace (dmid t i cur (dAt t i) k).rows (nextS t cur ((k : Int) + 1)) < (dmid t i cur (dAt t i) k).rows.length := fun hlt => hn _ (by rw [hlen]; exact hlt) hp
 have hto : goTo (dSys t st) i (labK t.labels k) = N.length := by rw [hp, hlen]; omega
 have hlen2 : (N ++ [k :: u]).length = (dmid t i cur (dAt t i) (k + 1)).rows.length := by
  rw [dmid_succ, dstep_new hne hpn, List.length_append, List.length_append, hlen]
  rfl
 refine ⟨hto, h.nst.meet hu (by omega) ?_ (fun h => h) (fun x hx e => ?_), fun j x hx => ?_, fun cur' hc' => ?_, fun e => by omega, h.upto, ?_⟩
 ·show ¬ deadB (difS _ _ _ (k :: u))
  rw [hat]
  rintro ⟨h1, -⟩
  exact h0 h1
 ·obtain ⟨j, hj, rfl⟩ := List.mem_iff_getElem.1 hx
  have e2 : difS (dSys t st) (dSys t st) t.labels N[j] = difS (dSys t st) (dSys t st) t.labels (k :: u) := e
  rw [hat, h.num j N[j] (List.getElem?_eq_getElem hj)] at e2
  exact hn j hj (Prod.ext_iff.1 e2).1.symm
 ·by_cases hj : j < N.length
  ·rw [List.getElem?_append_left hj] at hx
   exact h.num j x hx
  ·have hj2 := (List.getElem?_eq_some_iff.1 hx).1
   rw [List.length_append, List.length_singleton] at hj2
   have e : j = N.length := by omega
   subst e
   rw [List.getElem?_concat_length] at hx
   cases hx
   rw [hat, hto]
 ·rw [hc] at hc'
  cases hc'
  exact hlen2
 ·rw [hlen2]
  obtain ⟨r, hr⟩ := (hle (k + 1) (by omega)).rows
  rw [hr, List.length_append]
  omega
theorem WaySt.next {t : Lts} {st : DNet} (hok : DOk t st) {N : List (List Nat)} {i : Nat} (h : WaySt t st N i (t.labels.length - 1)) (hi : i < N.length) : WaySt t st N (i + 1) 0 := by
 have hi2 : i < st.rows.length := Nat.lt_of_lt_of_le hi h.few
 obtain ⟨cur, hc, hcs, hle, hlast⟩ := hok.row hi2
 have hlen := h.len cur hc
 rw [hlast] at hlen
 refine ⟨h.nst.next, h.num, fun cur' hc' => by rw [dmid_zero]; exact hlen, fun e => ?_, hi2, h.few⟩
 obtain ⟨⟨m, hm, em, lm⟩, -⟩ := hok
 rw [hlen, e, lm, em]
 exact lm
theorem WaySt.done {t : Lts} {st : DNet} (hok : DOk t st) {N : List (List Nat)} {i : Nat} (h : WaySt t st N i 0) (hi : ¬ i < N.length) : N.length = st.rows.length := by
 by_cases e : i = st.rows.length
 ·exact h.last e
 ·exfalso
  have hi2 : i < st.rows.length := by have := h.upto; omega
  obtain ⟨cur, hc, -, -, -⟩ := hok.row hi2
  have h1 := h.len cur hc
  rw [dmid_zero] at h1
  have := (List.getElem?_eq_some_iff.1 hc).1
  omega
/-- The words to all states, in the order of the states. -/
def WaysAll (t : Lts) (st : DNet) (N : List (List Nat)) : Prop := N.length = st.rows.length ∧ WaySt t st N st.rows.length 0
theorem WaySt.all {t : Lts} {st : DNet} (hok : DOk t st) {N : List (List Nat)} {i : Nat} (h : WaySt t st N i 0) (hi : ¬ i < N.length) : WaysAll t st N := by
 have h1 := h.done hok hi
 have h2 := h.upto
 have e : i = st.rows.length := by omega
 subst e
 exact ⟨h1, h⟩
theorem WaySt.short {t : Lts} {st : DNet} {N : List (List Nat)} {i k : Nat} (h : WaySt t st N i k) : ∀ (j : Nat) (u : List Nat), N[j]? = some u → u.length ≤ j := by
 intro j
 induction j using Nat.strongRecOn with
 | _ j ih =>
  intro u hu
  obtain ⟨hj, hju⟩ := List.getElem?_eq_some_iff.1 hu
  rcases h.nst.par u (by rw [← hju]; exact List.getElem_mem _) with rfl | ⟨a, j', v, rfl, hv, -⟩
  ·exact Nat.zero_le _
  ·obtain ⟨hj', hjv⟩ := List.getElem?_eq_some_iff.1 hv
   have hlt : j' < j := by
    rcases Nat.lt_trichotomy j' j with h1 | h1 | h1
    ·exact h1
    ·exfalso
     subst h1
     rw [hju] at hjv
     have := congrArg List.length hjv
     simp at this
    ·exfalso
     have := List.pairwise_iff_getElem.1 h.nst.sorted j j' hj hj' h1
     rw [hju, hjv] at this
     exact slt_irrefl _ (slt_trans this (slt_cons a v))
   have := ih j' hlt v hv
   rw [List.length_cons]
   omega
theorem WaysAll.few {t : Lts} {st : DNet} (hs : DSmall st) {N : List (List Nat)} (h : WaysAll t st N) {j : Nat} {u : List Nat} (hu : N[j]? = some u) : (txtsOf t.labels u).length ≤ 40 := by
 have h1 := h.2.short j u hu
 have h2 := (List.getElem?_eq_some_iff.1 hu).1
 have h3 := h.1
 have h4 := hs.1
 simp only [txtsOf, List.length_map, List.length_reverse]
 omega
/-- The first state, in the order of the states, where something holds: its word is the first one. -/
theorem WaysAll.least {t : Lts} {st : DNet} {N : List (List Nat)} (h : WaysAll t st N) {G : Int → Prop} {j : Nat} {u : List Nat} (hu : N[j]? = some u) (hG : G (j : Int)) (hno : ∀ k : Nat, k < j → ¬ G (k : Int)) :
  Least ((0 : Int), (0 : Int)) (goBoth (dSys t st) (dSys t st) t.labels) (t.labels.length - 1) (liveF fun p => G p.1) u := by
 refine NSt.pick (deadB_step _ _ _) liveF_not h.2.nst (by rw [h.1]; exact Nat.le_refl _) hu ?_ fun k v hk hv hF => ?_
 ·show liveF _ (difS _ _ _ u)
  rw [h.2.num j u hu]
  exact ⟨fun hd => by have := hd.1; simp only at this; omega, hG⟩
 ·have hF2 : liveF (fun p => G p.1) (difS (dSys t st) (dSys t st) t.labels v) := hF
  rw [h.2.num k v hv] at hF2
  exact hno k hk hF2.2
theorem WaysAll.none {t : Lts} {st : DNet} {N : List (List Nat)} (h : WaysAll t st N) {G : Int → Prop} (hno : ∀ k : Nat, k < st.rows.length → ¬ G (k : Int)) :
  NoWord ((0 : Int), (0 : Int)) (goBoth (dSys t st) (dSys t st) t.labels) (t.labels.length - 1) (liveF fun p => G p.1) := by
 refine NSt.lookNone (deadB_step _ _ _) liveF_not h.2.nst (by rw [h.1]; exact Nat.le_refl _) fun k v hv hF => ?_
 have hF2 : liveF (fun p => G p.1) (difS (dSys t st) (dSys t st) t.labels v) := hF
 rw [h.2.num k v hv] at hF2
 have := (List.getElem?_eq_some_iff.1 hv).1
 exact hno k (by have := h.1; omega) hF2.2

end Go.Proofs.YtpoleaekcjjedaaGreatDoor

namespace Go.Proofs.YtpoleaekcjjedaaGreatDoor
open Go Go.RowKit

/-- A text among texts. -/
def inT (ss : List ByteArray) (s : ByteArray) : Bool := ss.any fun t => t.toList == s.toList
theorem inT_mem {ss : List ByteArray} {s : ByteArray} : inT ss s = true ↔ s ∈ ss := by
 unfold inT
 rw [List.any_eq_true]
 exact ⟨fun ⟨x, hx, h⟩ => toList_inj (eq_of_beq h) ▸ hx, fun h => ⟨s, h, by simp⟩⟩
theorem inT_congr {a b : List ByteArray} (h : ∀ s, s ∈ a ↔ s ∈ b) (s : ByteArray) : inT a s = inT b s := by
 rw [Bool.eq_iff_iff, inT_mem, inT_mem]; exact h s
/-- The labels of the edges from a state. -/
def rdy (t : Lts) (k : Int) : List ByteArray := labSet ((outOf t k).map (labAt t))
/-- The visible ones. -/
def vis (t : Lts) (k : Int) : List ByteArray := labSet (((outOf t k).filter fun e => decide (0 < e.lab)).map (labAt t))
/-- No internal edge leads from a state. -/
def stableB (t : Lts) (k : Int) : Bool := t.edges.all fun e => !((e.src == k) && (e.lab == 0))
theorem stable_out {t : Lts} {k : Int} : stableB t k = true ↔ ∀ e ∈ outOf t k, e.lab ≠ 0 := by
 unfold stableB outOf
 rw [List.all_eq_true]
 constructor
 ·intro h e he hl
  obtain ⟨h1, h2⟩ := List.mem_filter.1 he
  have := h e h1
  rw [h2, hl] at this
  simp at this
 ·intro h e he
  by_cases hs : (e.src == k) = true
  ·have := h e (List.mem_filter.2 ⟨he, hs⟩)
   simp [this]
  ·simp [Bool.eq_false_iff.2 hs]
theorem vis_stable {t : Lts} (hv : Valid t) {k : Int} (h : stableB t k = true) : vis t k = rdy t k := by
 unfold vis rdy
 rw [List.filter_eq_self.2 fun e he => ?_]
 have h1 := stable_out.1 h e he
 obtain ⟨i, hi, hie⟩ := List.mem_iff_getElem.1 (List.mem_filter.1 he).1
 have h2 := (hv.edge i hi).l0
 rw [hie] at h2
 simp
 omega
theorem lab_tau {t : Lts} (hv : Valid t) {e : Edge} (he : e ∈ t.edges) : labAt t e = tauT ↔ e.lab = 0 := by
 obtain ⟨i, hi, rfl⟩ := List.mem_iff_getElem.1 he
 have hok := hv.edge i hi
 obtain ⟨hlt, hl⟩ := labAt_idx hok
 obtain ⟨h0, ht⟩ := tau_first hv
 rw [hl]
 constructor
 ·intro h
  have := labels_inj hv.labels _ 0 hlt h0 (by rw [h, ht])
  have := hok.l0
  omega
 ·intro h
  have e0 : t.edges[i].lab.toNat = 0 := by omega
  rw [← ht]
  congr 1
theorem tau_rdy {t : Lts} (hv : Valid t) (k : Int) : inT (rdy t k) tauT = !stableB t k := by
 have h1 : inT (rdy t k) tauT = true ↔ ¬ stableB t k = true := by
  rw [inT_mem, stable_out]
  unfold rdy
  rw [(labSet_is _).2, List.mem_map]
  constructor
  ·rintro ⟨e, he, hl⟩ h
   exact h e he ((lab_tau hv (List.mem_filter.1 he).1).1 hl)
  ·intro h
   refine Decidable.byContradiction fun hn => h fun e he hl => hn ⟨e, he, (lab_tau hv (List.mem_filter.1 he).1).2 hl⟩
 cases h2 : stableB t k
 ·rw [Bool.not_false]
  exact h1.2 (by rw [h2]; simp)
 ·rw [Bool.not_true, Bool.eq_false_iff]
  intro h
  exact h1.1 h h2
/-- The stable ones among states. -/
def stabs (t : Lts) (l : List Int) : List Int := l.filter (stableB t)
/-- What one list has and another one has not. -/
def lackL (set other : List ByteArray) : List ByteArray := set.filter fun s => !inT other s
def withinL (a b : List ByteArray) : Bool := a.all (inT b)
theorem lack_nil {a b : List ByteArray} : (lackL a b).length = 0 ↔ withinL a b = true := by
 unfold lackL withinL
 rw [List.length_eq_zero_iff, List.filter_eq_nil_iff, List.all_eq_true]
 constructor
 ·intro h s hs
  have := h s hs
  cases h2 : inT b s
  ·rw [h2] at this; simp at this
  ·rfl
 ·intro h s hs
  rw [h s hs]
  simp
/-- An offer is met by none of the stable states of others. -/
def excB (a b : Lts) (after : List Int) (k : Int) : Bool := !((stabs a after).any fun j => withinL (rdy a j) (rdy b k))
def excL (a b : Lts) (after states : List Int) : Int := ((stabs b states).find? (excB a b after)).getD (-1)
theorem excL_iff {a b : Lts} {after states : List Int} (h : ∀ x ∈ states, 0 ≤ x) : 0 ≤ excL a b after states ↔ ∃ x ∈ stabs b states, excB a b after x = true := by
 unfold excL
 cases hf : (stabs b states).find? (excB a b after) with
 | none =>
  rw [List.find?_eq_none] at hf
  simp only [Option.getD_none]
  exact ⟨fun h => by omega, fun ⟨x, hx, h⟩ => absurd h (hf x hx)⟩
 | some x =>
  have h1 := List.mem_of_find?_eq_some hf
  have h2 := List.find?_some hf
  simp only [Option.getD_some]
  exact ⟨fun _ => ⟨x, h1, h2⟩, fun _ => h x (List.mem_filter.1 h1).1⟩
/-- The pair of states of both deterministic systems where the second one does something that the first one does not allow. -/
def badP (a b : Lts) (sa sb : DNet) (p : Int × Int) : Prop := 0 ≤ p.2 ∧ (p.1 < 0 ∨ 0 ≤ excL a b (setOf sa p.1) (setOf sb p.2))
/-- What is refused there. -/
def refL (a b : Lts) (sa sb : DNet) (p : Int × Int) : List ByteArray := if p.1 < 0 then [] else lackL ((bothL a b).drop 1) (rdy b (excL a b (setOf sa p.1) (setOf sb p.2)))
/-- Whether it refines; the trace; the refusal; the code. -/
def RefIs (a b : Lts) (r : Bool) (xs ys : List ByteArray) (code : Int) : Prop :=
 (¬ (Valid a ∧ Valid b) ∧ r = false ∧ xs = [] ∧ ys = [] ∧ code = 1) ∨ ((Valid a ∧ Valid b) ∧ (DFull a ∨ DFull b) ∧ r = false ∧ xs = [] ∧ ys = [] ∧ code = 5)
  ∨ ((Valid a ∧ Valid b) ∧ ∃ sa sb, DOk a sa ∧ DOk b sb ∧ code = 0 ∧ ((NoWord ((0 : Int), (0 : Int)) (goBoth (dSys a sa) (dSys b sb) (bothL a b)) ((bothL a b).length - 1) (badP a b sa sb) ∧ r = true ∧ xs = [] ∧ ys = [])
   ∨ ∃ u, Least ((0 : Int), (0 : Int)) (goBoth (dSys a sa) (dSys b sb) (bothL a b)) ((bothL a b).length - 1) (badP a b sa sb) u ∧ r = false ∧ xs = txtsOf (bothL a b) u ∧ ys = refL a b sa sb (difS (dSys a sa) (dSys b sb) (bothL a b) u)))
theorem RefIs.unique {a b : Lts} {r r' : Bool} {xs xs' ys ys' : List ByteArray} {code code' : Int} (h : RefIs a b r xs ys code) (k : RefIs a b r' xs' ys' code') : r = r' ∧ xs = xs' ∧ ys = ys' ∧ code = code' := by
 rcases h with ⟨h1, h2, h3, h4, h5⟩ | ⟨h1, h2, h3, h4, h5, h6⟩ | ⟨h1, sa, sb, h2, h3, h4, h5⟩ <;>
  rcases k with ⟨k1, k2, k3, k4, k5⟩ | ⟨k1, k2, k3, k4, k5, k6⟩ | ⟨k1, sa', sb', k2, k3, k4, k5⟩ <;>
  first
  | exact absurd k1 h1
  | exact absurd h1 k1
  | exact ⟨h2.trans k2.symm, h3.trans k3.symm, h4.trans k4.symm, h5.trans k5.symm⟩
  | exact ⟨h3.trans k3.symm, h4.trans k4.symm, h5.trans k5.symm, h6.trans k6.symm⟩
  | exact absurd k2 (fun e => e.elim h2.not_full h3.not_full)
  | exact absurd h2 (fun e => e.elim k2.not_full k3.not_full)
  | skip
 have e1 := h2.1.unique k2.1
 have e2 := h3.1.unique k3.1
 subst e1 e2
 rcases h5 with ⟨a1, a2, a3, a4⟩ | ⟨u, a1, a2, a3, a4⟩ <;> rcases k5 with ⟨b1, b2, b3, b4⟩ | ⟨u', b1, b2, b3, b4⟩ <;>
  first
  | exact ⟨a2.trans b2.symm, a3.trans b3.symm, a4.trans b4.symm, h4.trans k4.symm⟩
  | exact (b1.some a1).elim
  | exact (a1.some b1).elim
  | (have := a1.unique b1; subst this; exact ⟨a2.trans b2.symm, a3.trans b3.symm, a4.trans b4.symm, h4.trans k4.symm⟩)
/-- The same, of both directions. -/
def EqfIs (a b : Lts) (r : Bool) (code : Int) : Prop := ∃ r1 xs1 ys1 r2 xs2 ys2, RefIs a b r1 xs1 ys1 code ∧ RefIs b a r2 xs2 ys2 code ∧ r = (r1 && r2)
theorem EqfIs.unique {a b : Lts} {r r' : Bool} {code code' : Int} (h : EqfIs a b r code) (k : EqfIs a b r' code') : r = r' ∧ code = code' := by
 obtain ⟨r1, x1, y1, r2, x2, y2, h1, h2, rfl⟩ := h
 obtain ⟨s1, z1, u1, s2, z2, u2, k1, k2, rfl⟩ := k
 obtain ⟨rfl, -, -, rfl⟩ := h1.unique k1
 obtain ⟨rfl, -⟩ := h2.unique k2
 exact ⟨rfl, rfl⟩

end Go.Proofs.YtpoleaekcjjedaaGreatDoor

namespace Go.Proofs.YtpoleaekcjjedaaGreatDoor
open Go Go.RowKit

noncomputable section
/-- Behind a label from a set. -/
def nxtL (t : Lts) (S : List Int) (l : ByteArray) : List Int := if inT t.labels l = true then nextS t S (idxL t.labels l : Nat) else []
/-- Behind a trace. -/
def aftL (t : Lts) (tr : List ByteArray) : List Int := tr.foldl (nxtL t) (firstS t)
end
theorem aftL_snoc (t : Lts) (tr : List ByteArray) (l : ByteArray) : aftL t (tr ++ [l]) = nxtL t (aftL t tr) l := by unfold aftL; rw [List.foldl_append]; rfl
/-- A label leads from a state of the deterministic system to the set behind its set. -/
theorem set_goL {t : Lts} {st : DNet} (hv : Valid t) (h : DOk t st) {q : Int} (hq : q < (dSys t st).states) {l : ByteArray} (hl : l ≠ tauT) : setOf st (goTo (dSys t st) q l) = nxtL t (setOf st q) l := by
 unfold nxtL
 by_cases hm : inT t.labels l = true
 ·rw [if_pos hm]
  obtain ⟨hk, he, -⟩ := idxL_get (inT_mem.1 hm)
  obtain ⟨h0, ht⟩ := tau_first hv
  have h1 : 1 ≤ idxL t.labels l := by
   refine Nat.one_le_iff_ne_zero.2 fun e => hl ?_
   have : t.labels[idxL t.labels l] = t.labels[0] := by congr 1
   rw [← he, this, ht]
  have h2 := set_go hv h hq (k := idxL t.labels l - 1) (by omega)
  have h3 : labK t.labels (idxL t.labels l - 1) = l := by
   unfold labK
   rw [show idxL t.labels l - 1 + 1 = idxL t.labels l from by omega, List.getD_eq_getElem?_getD, List.getElem?_eq_getElem hk]
   exact he
  rw [h3] at h2
  rw [h2]
  congr 1
  omega
 ·rw [if_neg hm]
  have hG := dok_good hv h
  refine setOf_neg ?_
  unfold goTo
  split
  ·decide
  ·have hfind : st.edges.find? (hitB (dSys t st) q l) = none := by
    refine find_none fun j hj => ?_
    unfold hitB
    rw [Bool.and_eq_false_iff]
    right
    rw [beq_eq_false_iff_ne]
    intro hb
    obtain ⟨h1, h2, -⟩ := lab_get hG (List.getElem_mem hj)
    have h4 : (labAt (dSys t st) st.edges[j]) = t.labels[st.edges[j].lab.toNat] := h2
    rw [h4] at hb
    exact hm (inT_mem.2 (toList_inj hb ▸ List.getElem_mem h1))
   show ((st.edges.find? _).map Edge.dst).getD (-1) < 0
   rw [hfind]
   decide
theorem labK_tau {L : List ByteArray} (hL : InOrd L) {k : Nat} (hk : k + 1 < L.length) : labK L k ≠ tauT := by
 intro e
 have h0 := hL.first
 obtain ⟨h1, h2⟩ := List.getElem?_eq_some_iff.1 h0
 have h3 := hL.asc
 rw [List.pairwise_map, List.pairwise_iff_getElem] at h3
 have h4 := h3 0 (k + 1) h1 hk (by omega)
 have h5 : L[k + 1] = tauT := by rw [← e]; unfold labK; rw [List.getD_eq_getElem?_getD, List.getElem?_eq_getElem hk]; rfl
 rw [h2, h5, lessL_irrefl] at h4
 cases h4
/-- Behind the trace of a word stand the sets of the states where the word leads. -/
theorem aft_word {a b : Lts} {sa sb : DNet} (ha : Valid a) (hb : Valid b) (hoa : DOk a sa) (hob : DOk b sb) {L : List ByteArray} (hL : InOrd L) : ∀ u, WOk (L.length - 1) u → aftL a (txtsOf L u) = setOf sa (difS (dSys a sa) (dSys b sb) L u).1 ∧ aftL b (txtsOf L u) = setOf sb (difS (dSys a sa) (dSys b sb) L u).2
 | [], _ => ⟨(set_first hoa).symm, (set_first hob).symm⟩
 | k :: u, hw => by
  have hk : k < L.length - 1 := hw k (by simp)
  obtain ⟨h1, h2⟩ := aft_word ha hb hoa hob hL u fun x hx => hw x (List.mem_cons_of_mem _ hx)
  have hr := difS_range (dSys_valid ha hoa) (dSys_valid hb hob) L u
  have ht := labK_tau hL (k := k) (by omega)
  rw [txtsOf_cons, aftL_snoc, aftL_snoc, h1, h2, difS_cons]
  exact ⟨(set_goL ha hoa hr.1.1 ht).symm, (set_goL hb hob hr.2.1 ht).symm⟩

/-- A stable state refuses the label. -/
def refuseB (t : Lts) (states : List Int) (l : ByteArray) : Bool := (stabs t states).any fun j => !inT (rdy t j) l
/-- The label leads on, and may be refused. -/
def sometimes (t : Lts) (states : List Int) (l : ByteArray) : Bool := decide (0 < (followL t states l).length) && refuseB t states l
def undetL (t : Lts) (states : List Int) : ByteArray := ((t.labels.drop 1).find? (sometimes t states)).getD ByteArray.empty
theorem undet_iff {t : Lts} (hv : Valid t) {states : List Int} : undetL t states ≠ ByteArray.empty ↔ ∃ k, k + 1 < t.labels.length ∧ sometimes t states (labK t.labels k) = true := by
 unfold undetL
 constructor
 ·intro h
  cases hf : (t.labels.drop 1).find? (sometimes t states) with
  | none => rw [hf] at h; exact absurd rfl h
  | some s =>
   have h1 := List.mem_of_find?_eq_some hf
   have h2 := List.find?_some hf
   obtain ⟨k, hk, rfl⟩ := List.mem_iff_getElem.1 h1
   rw [List.length_drop] at hk
   refine ⟨k, by omega, ?_⟩
   have : labK t.labels k = (t.labels.drop 1)[k] := by
    have h9 : (t.labels.drop 1)[k] = t.labels[k + 1] := by
     rw [List.getElem_drop]
     congr 1
     omega
    rw [h9]
    unfold labK
    rw [List.getD_eq_getElem?_getD, List.getElem?_eq_getElem (by omega)]
    rfl
   rw [this]
   exact h2
 ·rintro ⟨k, hk, hs⟩
  have hm : labK t.labels k ∈ t.labels.drop 1 := by
   unfold labK
   rw [List.getD_eq_getElem?_getD, List.getElem?_eq_getElem hk]
   refine List.mem_iff_getElem.2 ⟨k, by rw [List.length_drop]; omega, ?_⟩
   rw [List.getElem_drop]
   show t.labels[1 + k] = t.labels[k + 1]
   congr 1
   omega
  cases hf : (t.labels.drop 1).find? (sometimes t states) with
  | none =>
   rw [List.find?_eq_none] at hf
   exact absurd hs (hf _ hm)
  | some s =>
   have h1 := List.mem_of_find?_eq_some hf
   obtain ⟨j, hj, rfl⟩ := List.mem_iff_getElem.1 h1
   rw [List.length_drop] at hj
   simp only [Option.getD_some]
   intro e
   have h3 := hv.labels.label (1 + j) (by omega) (by omega)
   rw [List.getElem_drop] at e
   rw [e] at h3
   exact absurd h3 (by decide)
/-- Whether it is determinate; the trace, the label, the code. -/
def DetmIs (t : Lts) (r : Bool) (xs : List ByteArray) (s : ByteArray) (code : Int) : Prop :=
 (¬ Valid t ∧ r = false ∧ xs = [] ∧ s = ByteArray.empty ∧ code = 1) ∨ (Valid t ∧ DFull t ∧ r = false ∧ xs = [] ∧ s = ByteArray.empty ∧ code = 5)
  ∨ (Valid t ∧ ∃ st, DOk t st ∧ code = 0 ∧ ((NoWord ((0 : Int), (0 : Int)) (goBoth (dSys t st) (dSys t st) t.labels) (t.labels.length - 1) (liveF fun p => undetL t (setOf st p.1) ≠ ByteArray.empty) ∧ r = true ∧ xs = [] ∧ s = ByteArray.empty)
   ∨ ∃ u, Least ((0 : Int), (0 : Int)) (goBoth (dSys t st) (dSys t st) t.labels) (t.labels.length - 1) (liveF fun p => undetL t (setOf st p.1) ≠ ByteArray.empty) u ∧ r = false ∧ xs = txtsOf t.labels u ∧ s = undetL t (setOf st (difS (dSys t st) (dSys t st) t.labels u).1)))
theorem DetmIs.unique {t : Lts} {r r' : Bool} {xs xs' : List ByteArray} {s s' : ByteArray} {code code' : Int} (h : DetmIs t r xs s code) (k : DetmIs t r' xs' s' code') : r = r' ∧ xs = xs' ∧ s = s' ∧ code = code' := by
 rcases h with ⟨h1, h2, h3, h4, h5⟩ | ⟨h1, h2, h3, h4, h5, h6⟩ | ⟨h1, st, h2, h4, h3⟩ <;> rcases k with ⟨k1, k2, k3, k4, k5⟩ | ⟨k1, k2, k3, k4, k5, k6⟩ | ⟨k1, st', k2, k4, k3⟩ <;>
  first
  | exact absurd k1 h1
  | exact absurd h1 k1
  | exact ⟨h2.trans k2.symm, h3.trans k3.symm, h4.trans k4.symm, h5.trans k5.symm⟩
  | exact ⟨h3.trans k3.symm, h4.trans k4.symm, h5.trans k5.symm, h6.trans k6.symm⟩
  | exact absurd k2 h2.not_full
  | exact absurd h2 k2.not_full
  | skip
 have e := h2.1.unique k2.1
 subst e
 rcases h3 with ⟨a1, a2, a3, a4⟩ | ⟨u, a1, a2, a3, a4⟩ <;> rcases k3 with ⟨b1, b2, b3, b4⟩ | ⟨u', b1, b2, b3, b4⟩
 ·exact ⟨a2.trans b2.symm, a3.trans b3.symm, a4.trans b4.symm, h4.trans k4.symm⟩
 ·exact (b1.some a1).elim
 ·exact (a1.some b1).elim
 ·have := a1.unique b1
  subst this
  exact ⟨a2.trans b2.symm, a3.trans b3.symm, a4.trans b4.symm, h4.trans k4.symm⟩

end Go.Proofs.YtpoleaekcjjedaaGreatDoor

namespace Go.Proofs.YtpoleaekcjjedaaGreatDoor
open Go Go.RowKit

/-- The offer of a state after j edges. -/
def offTo (t : Lts) (k : Int) : Nat → List ByteArray
 | 0 => []
 | j + 1 => if h : j < t.edges.length then (if ((t.edges[j].src == k) && decide (0 < t.edges[j].lab)) && decide (textAt (offTo t k j) (labAt t t.edges[j]) < 0) then offTo t k j ++ [labAt t t.edges[j]] else offTo t k j) else offTo t k j
def offS (t : Lts) (k : Int) : List ByteArray := offTo t k t.edges.length
theorem offTo_succ {t : Lts} {k : Int} {j : Nat} (h : j < t.edges.length) : offTo t k (j + 1) = if ((t.edges[j].src == k) && decide (0 < t.edges[j].lab)) && decide (textAt (offTo t k j) (labAt t t.edges[j]) < 0) then offTo t k j ++ [labAt t t.edges[j]] else offTo t k j := by rw [offTo, dif_pos h]
theorem offTo_len (t : Lts) (k : Int) : ∀ j, (offTo t k j).length ≤ j
 | 0 => Nat.le_refl _
 | j + 1 => by
  have h := offTo_len t k j
  rw [offTo]
  split
  ·split
   ·rw [List.length_append]; exact Nat.succ_le_succ h
   ·omega
  ·omega
theorem textAt_inT {ss : List ByteArray} {s : ByteArray} : decide (textAt ss s < 0) = !inT ss s := by
 have h := textAt_neg (ss := ss) (s := s)
 unfold inT
 cases h2 : ss.any fun t => t.toList == s.toList
 ·rw [Bool.not_false, decide_eq_true_eq]; exact h.2 h2
 ·rw [Bool.not_true, decide_eq_false_iff_not]
  intro h3
  rw [h.1 h3] at h2
  cases h2
theorem offTo_mem (t : Lts) (k : Int) (s : ByteArray) : ∀ j, s ∈ offTo t k j ↔ ∃ e ∈ t.edges.take j, e.src = k ∧ 0 < e.lab ∧ labAt t e = s
 | 0 => by simp [offTo]
 | j + 1 => by
  have ih := offTo_mem t k s j
  rw [offTo]
  split
  ·next h =>
   rw [List.take_succ_eq_append_getElem h]
   have hsplit : (∃ e ∈ t.edges.take j ++ [t.edges[j]], e.src = k ∧ 0 < e.lab ∧ labAt t e = s) ↔ (∃ e ∈ t.edges.take j, e.src = k ∧ 0 < e.lab ∧ labAt t e = s) ∨ (t.edges[j].src = k ∧ 0 < t.edges[j].lab ∧ labAt t t.edges[j] = s) := by
    constructor
    ·rintro ⟨e, he, r⟩
     rcases List.mem_append.1 he with he | he
     ·exact .inl ⟨e, he, r⟩
     ·rw [List.mem_singleton] at he; subst he; exact .inr r
    ·rintro (⟨e, he, r⟩ | r)
     ·exact ⟨e, List.mem_append.2 (.inl he), r⟩
     ·exact ⟨_, List.mem_append.2 (.inr (List.mem_singleton.2 rfl)), r⟩
   rw [hsplit, ← ih]
   by_cases h1 : t.edges[j].src = k ∧ 0 < t.edges[j].lab
   ·have e1 : ((t.edges[j].src == k) && decide (0 < t.edges[j].lab)) = true := by rw [Bool.and_eq_true, beq_iff_eq, decide_eq_true_eq]; exact h1
    rw [e1, Bool.true_and, textAt_inT]
    cases h2 : inT (offTo t k j) (labAt t t.edges[j])
    ·simp only [Bool.not_false, if_true, List.mem_append, List.mem_singleton]
     constructor
     ·rintro (h | h)
      ·exact .inl h
      ·exact .inr ⟨h1.1, h1.2, h.symm⟩
     ·rintro (h | h)
      ·exact .inl h
      ·exact .inr h.2.2.symm
    ·simp only [Bool.not_true, Bool.false_eq_true, if_false]
     constructor
     ·exact .inl
     ·rintro (h | h)
      ·exact h
      ·rw [← h.2.2]; exact inT_mem.1 h2
   ·have e1 : ((t.edges[j].src == k) && decide (0 < t.edges[j].lab)) = false := by
     rw [Bool.eq_false_iff]
     intro h
     rw [Bool.and_eq_true, beq_iff_eq, decide_eq_true_eq] at h
     exact h1 h
    rw [e1, Bool.false_and]
    simp only [Bool.false_eq_true, if_false]
    exact ⟨.inl, fun h => h.elim id fun h => absurd ⟨h.1, h.2.1⟩ h1⟩
  ·next h => rw [List.take_of_length_le (by omega)]; rw [List.take_of_length_le (by omega)] at ih; exact ih
theorem offS_mem (t : Lts) (k : Int) (s : ByteArray) : s ∈ offS t k ↔ s ∈ vis t k := by
 unfold offS vis
 rw [offTo_mem, List.take_length, (labSet_is _).2, List.mem_map]
 unfold outOf
 constructor
 ·rintro ⟨e, he, h1, h2, h3⟩
  exact ⟨e, List.mem_filter.2 ⟨List.mem_filter.2 ⟨he, by simpa using h1⟩, by simpa using h2⟩, h3⟩
 ·rintro ⟨e, he, h3⟩
  obtain ⟨h4, h2⟩ := List.mem_filter.1 he
  obtain ⟨h5, h1⟩ := List.mem_filter.1 h4
  exact ⟨e, h5, by simpa using h1, by simpa using h2, h3⟩
theorem off_rdy {t : Lts} (hv : Valid t) {k : Int} (h : stableB t k = true) (s : ByteArray) : inT (offS t k) s = inT (rdy t k) s := by
 rw [← vis_stable hv h]
 exact inT_congr (fun x => offS_mem t k x) s
/-- The offers of the stable ones among states. -/
def offersS (t : Lts) (S : List Int) : List (List ByteArray) := (stabs t S).map (offS t)
theorem refuse_off {t : Lts} (hv : Valid t) (S : List Int) (l : ByteArray) : ((offersS t S).any fun o => !inT o l) = refuseB t S l := by
 unfold offersS refuseB
 rw [List.any_map]
 have h : ∀ j ∈ stabs t S, (!inT (offS t j) l) = !inT (rdy t j) l := fun j hj => by rw [off_rdy hv (List.mem_filter.1 hj).2]
 generalize stabs t S = xs at h
 induction xs with
 | nil => rfl
 | cons a r ih =>
  rw [List.any_cons, List.any_cons, ih fun j hj => h j (List.mem_cons_of_mem _ hj)]
  congr 1
  exact h a (by simp)

/-- One list more. -/
theorem ownStrss_push {lo B : Nat} {w0 w w' : World} {v v' rv : Value} {vs : List Value} {xss : List (List ByteArray)} {ys : List ByteArray} (h : OwnStrss lo w0 v vs xss) (hB : w0.heap.size ≤ B) (hb : Below w0.heap.size w0 w) (hr : w.ownsRow B 9 1 rv ys.length (txts ys)) (hlo : lo ≤ B)
  (hg : w.grownBy w' v.ownBlock) (ho : w'.ownsRow lo 22 1 v' (vs.length + 1) (vs ++ [rv])) : OwnStrss lo w' v' (vs ++ [rv]) (xss ++ [ys]) := by
 have h1 := h.rows.push hB hb (by rw [txts_len]; exact hr) hlo
 have h2 := h1.other (by decide) (owns_below h.out hb) hg
 refine ⟨by rw [List.length_append, List.length_singleton]; exact ho, ?_⟩
 rw [List.map_append, List.map_singleton]
 exact h2

end Go.Proofs.YtpoleaekcjjedaaGreatDoor

namespace Go.Proofs.YtpoleaekcjjedaaGreatDoor
open Go Go.RowKit

theorem Index_strs (lo : Nat) (v : Value) (x : ByteArray) (xs : List ByteArray) (w : World) (hv : SliceK 1 encS lo w v xs) :
  Calls Tryz.prog 211 #[v, .string x] w fun e w' => ∃ r : Int, e = .returned (.int .i64 r) ∧ decide (0 ≤ r) = (xs.any fun y => y.toList == x.toList) ∧ w = w' := by
 obtain ⟨a, c, rfl, hcn, hcc, hrow⟩ := hv
 go_enter Tryz.func211, Tryz.ntmps211
 go_wp2_with fail
 go_loop [8] (fun i => ∃ k : Nat, k ≤ xs.length ∧ i = .int .i64 k ∧ ∀ j (h : j < xs.length), j < k → (x.toList == xs[j].toList) = false) (fun i => xs.length - (intOf i).toNat)
 case atStart => exact ⟨0, Nat.zero_le _, rfl, fun _ _ h => by omega⟩
 case round =>
  obtain ⟨k, hk, rfl, ha⟩ := hrel
  have HA := Lib.hid ha
  clear ha
  by_cases hlt : k < xs.length
  ·obtain ⟨b1, o1, rfl, -, hbs, c1⟩ := hrow.one hlt
   simp only [encS, List.getElem?_cons_zero] at c1
   clear hrow
   cases h0 : (x.toList == xs[k].toList)
   ·have H0 := Lib.hid h0
    go_wp2_with fail
    go_round
    case rel => exact ⟨k + 1, by omega, by go_num, fun j h hj => by
     by_cases e : j = k
     ·subst e; exact H0.out
     ·exact HA.out j h (by omega)⟩
    case measure => simp [intOf]; omega
   ·have HF : Hid ((xs.any fun y => y.toList == x.toList) = true) := by
     unfold Hid
     rw [List.any_eq_true]
     exact ⟨xs[k], List.getElem_mem _, by rw [beq_iff_eq] at h0 ⊢; exact h0.symm⟩
    go_wp2_with fail
    go_ret
    exact ⟨_, rfl, by rw [HF.out]; simp, rfl⟩
  ·clear hrow
   go_wp2_with fail
   go_ret
   refine ⟨_, rfl, ?_, rfl⟩
   have : (xs.any fun y => y.toList == x.toList) = false := by
    rw [List.any_eq_false]
    intro y hy
    obtain ⟨j, hj, rfl⟩ := List.mem_iff_getElem.1 hy
    have := HA.out j hj (by omega)
    simp at this ⊢
    exact fun e => this e.symm
   rw [this]; simp

theorem Contains_strs (lo : Nat) (v : Value) (x : ByteArray) (xs : List ByteArray) (w : World) (hv : SliceK 1 encS lo w v xs) :
  Calls Tryz.prog 184 #[v, .string x] w fun e w' => e = .returned (.bool (xs.any fun y => y.toList == x.toList)) ∧ w = w' := by
 have HV := Lib.hid hv
 clear hv
 go_enter Tryz.func184, Tryz.ntmps184
 go_wp2_with fail
 refine (Index_strs lo v x xs _ HV.out).mono ?_
 rintro e w' ⟨r, rfl, hr, rfl⟩
 have HR := Lib.hid hr
 clear hr
 go_wp2_with fail
 go_ret
 exact ⟨ret_bool HR.out, rfl⟩

end Go.Proofs.YtpoleaekcjjedaaGreatDoor

namespace Go.Proofs.YtpoleaekcjjedaaGreatDoor
open Go Go.RowKit

def idxI (P : Int → Bool) (xs : List Int) : Int := if xs.findIdx P < xs.length then (xs.findIdx P : Nat) else -1
theorem idxI_neg {P : Int → Bool} {xs : List Int} : idxI P xs = -1 ↔ ∀ x ∈ xs, P x = false := by
 unfold idxI
 by_cases h : xs.findIdx P < xs.length
 ·rw [if_pos h]
  refine ⟨fun e => by omega, fun h2 => ?_⟩
  obtain ⟨x, hx, hp⟩ := List.findIdx_lt_length.1 h
  rw [h2 x hx] at hp
  cases hp
 ·rw [if_neg h]
  refine ⟨fun _ x hx => ?_, fun _ => rfl⟩
  cases hp : P x
  ·rfl
  ·exact absurd (List.findIdx_lt_length.2 ⟨x, hx, hp⟩) h
theorem idxI_any {P : Int → Bool} {xs : List Int} : decide (0 ≤ idxI P xs) = xs.any P := by
 unfold idxI
 by_cases h : xs.findIdx P < xs.length
 ·rw [if_pos h]
  obtain ⟨x, hx, hp⟩ := List.findIdx_lt_length.1 h
  rw [List.any_eq_true.2 ⟨x, hx, hp⟩]
  simp
 ·rw [if_neg h]
  have : xs.any P = false := by
   rw [List.any_eq_false]
   intro x hx hp
   exact h (List.findIdx_lt_length.2 ⟨x, hx, hp⟩)
  rw [this]
  rfl
/-- A function of one element that answers P, and turns nothing that was there. -/
def AskI (fid : Nat) (caps : Array Value) (P : Int → Bool) (xs : List Int) (B : Nat) (w : World) : Prop :=
 ∀ w', Below B w w' → ∀ x ∈ xs, Calls Tryz.prog fid (#[.int .i64 x] ++ caps) w' fun e w'' => e = .returned (.bool (P x)) ∧ Below w'.heap.size w' w''

set_option maxRecDepth 100000 in
set_option maxHeartbeats 1000000 in
theorem IndexFuncI (lo : Nat) (v : Value) (xs : List Int) (fid : Nat) (caps : Array Value) (P : Int → Bool) (w : World) (hv : SliceK 1 encI lo w v xs) (eg : ∀ args w, (callFunc fid args).run Tryz.prog w = .ok (.enter fid args) w) (hP : AskI fid caps P xs w.heap.size w) :
  Calls Tryz.prog 130 #[v, .func (.func fid) #[] caps] w fun e w' => e = .returned (.int .i64 (idxI P xs)) ∧ Below w.heap.size w w' := by
 obtain ⟨a, c, rfl, hcn, hcc, hrow⟩ := hv
 have HR := Lib.hid hrow
 have HP := Lib.hid hP
 clear hP hrow
 go_enter Tryz.func130, Tryz.ntmps130
 go_wp2_with fail
 go_loopw [8] (fun i wr => ∃ k : Nat, k ≤ xs.length ∧ i = .int .i64 k ∧ Below w.heap.size w wr ∧ ∀ j (h : j < xs.length), j < k → P xs[j] = false) (fun i _ => xs.length - (intOf i).toNat)
 case atStart => exact ⟨0, Nat.zero_le _, rfl, Below.refl _ _, fun _ _ h => by omega⟩
 case round =>
  obtain ⟨k, hk, rfl, hbl, ha⟩ := hrel
  have HA := Lib.hid ha
  have HBL := Lib.hid hbl
  clear ha
  by_cases hlt : k < xs.length
  ·obtain ⟨b1, o1, rfl, -, hbs, c1⟩ := (HR.out.below hbl).one hlt
   simp only [encI, List.getElem?_cons_zero] at c1
   clear hbl
   obtain ⟨x, hx⟩ : ∃ x, x = xs[k] := ⟨_, rfl⟩
   rw [← hx] at c1
   have HX := Lib.hid hx
   have HC := Lib.hid (HP.out wr HBL.out x (by rw [hx]; exact List.getElem_mem _))
   obtain ⟨b, hb⟩ : ∃ b, b = P x := ⟨_, rfl⟩
   rw [← hb] at HC
   have HB := Lib.hid hb
   clear hb hx
   go_wp2_with fail
   refine Calls.mono HC.out ?_
   rintro e w1 ⟨rfl, hb1⟩
   have HB1 := Lib.hid (HBL.out.trans (hb1.mono HBL.out.size))
   clear hb1 c1
   cases b
   ·go_wp2_with fail
    go_roundw
    case rel => exact ⟨k + 1, by omega, by go_num, HB1.out, fun j h hj => by
     by_cases e : j = k
     ·subst e; rw [← HX.out]; exact HB.out.symm
     ·exact HA.out j h (by omega)⟩
    case measure => simp [intOf]; omega
   ·have HI : Hid (idxI P xs = (k : Int)) := by
     unfold Hid idxI
     have h1 : xs.findIdx P = k := by
      rw [List.findIdx_eq hlt]
      exact ⟨by rw [← HX.out]; exact HB.out.symm, fun j hj => HA.out j (by omega) hj⟩
     rw [h1, if_pos hlt]
    go_wp2_with fail
    go_ret
    exact ⟨ret_int HI.out.symm, HB1.out⟩
  ·clear hbl
   have HI : Hid (idxI P xs = -1) := by
    unfold Hid
    rw [idxI_neg]
    intro x hx
    obtain ⟨j, hj, rfl⟩ := List.mem_iff_getElem.1 hx
    exact HA.out j hj (by omega)
   go_wp2_with fail
   go_ret
   exact ⟨ret_int HI.out.symm, HBL.out⟩

theorem ContainsFuncI (lo : Nat) (v : Value) (xs : List Int) (fid : Nat) (caps : Array Value) (P : Int → Bool) (w : World) (hv : SliceK 1 encI lo w v xs) (eg : ∀ args w, (callFunc fid args).run Tryz.prog w = .ok (.enter fid args) w) (hP : AskI fid caps P xs w.heap.size w) :
  Calls Tryz.prog 69 #[v, .func (.func fid) #[] caps] w fun e w' => e = .returned (.bool (xs.any P)) ∧ Below w.heap.size w w' := by
 have HC := Lib.hid (IndexFuncI lo v xs fid caps P w hv eg hP)
 clear hP
 go_enter Tryz.func69, Tryz.ntmps69
 go_wp2_with fail
 refine Calls.mono HC.out ?_
 rintro e w' ⟨rfl, hb⟩
 have HB := Lib.hid hb
 clear hb
 go_wp2_with fail
 go_ret
 exact ⟨ret_bool idxI_any, HB.out⟩

end Go.Proofs.YtpoleaekcjjedaaGreatDoor

namespace Go.Proofs.YtpoleaekcjjedaaGreatDoor
open Go Go.RowKit

/-- A block with room for c elements of one cell; the first n of them are cs. -/
structure CellsAt (w : World) (g : Nat) (T : TypeId) (n c : Nat) (cs : List Value) : Prop where
 blk : ∃ rest : List Value, Blk w g (cs ++ rest) T ∧ cs.length + rest.length = c
 len : cs.length = n
theorem CellsAt.lt {w : World} {g n c : Nat} {T : TypeId} {cs : List Value} (h : CellsAt w g T n c cs) : g < w.heap.size := by obtain ⟨r, hr, -⟩ := h.blk; exact hr.lt
theorem CellsAt.below {w w' : World} {g n c : Nat} {T : TypeId} {cs : List Value} (h : CellsAt w g T n c cs) (hb : Below w.heap.size w w') : CellsAt w' g T n c cs := by
 obtain ⟨r, hr, hl⟩ := h.blk
 exact ⟨⟨r, hr.below hb, hl⟩, h.len⟩
theorem CellsAt.cell {w : World} {g n c : Nat} {T : TypeId} {cs : List Value} (h : CellsAt w g T n c cs) (i : Nat) (hi : i < n) : w.cell? ⟨g, i, none⟩ = cs[i]? := by
 obtain ⟨r, hr, -⟩ := h.blk
 have hi2 : i < cs.length := by rw [h.len]; exact hi
 rw [hr.cell i (v := cs[i]) (by rw [List.getElem?_append_left hi2, List.getElem?_eq_getElem hi2]), List.getElem?_eq_getElem hi2]
theorem CellsAt.cell_some {w : World} {g n c : Nat} {T : TypeId} {cs : List Value} (h : CellsAt w g T n c cs) (i : Nat) (hi : i < n) : ∃ u, w.cell? ⟨g, i, none⟩ = some u := by
 have hi2 : i < cs.length := by rw [h.len]; exact hi
 exact ⟨cs[i], by rw [h.cell i hi, List.getElem?_eq_getElem hi2]⟩
theorem CellsAt.frozen {w : World} {g n c : Nat} {T : TypeId} {cs : List Value} (h : CellsAt w g T n c cs) (i : Nat) : w.frozen? ⟨g, i, none⟩ = false := by
 obtain ⟨r, hr, -⟩ := h.blk
 exact hr.frozen i
theorem CellsAt.set {w : World} {g n c : Nat} {T : TypeId} {cs : List Value} (h : CellsAt w g T n c cs) (i : Nat) (hi : i < n) (v : Value) : CellsAt (w.setCell ⟨g, i, none⟩ v) g T n c (cs.set i v) := by
 obtain ⟨r, hr, hl⟩ := h.blk
 have hi2 : i < cs.length := by rw [h.len]; exact hi
 refine ⟨⟨r, ?_, by rw [List.length_set]; exact hl⟩, by rw [List.length_set]; exact h.len⟩
 have := hr.set i v
 rwa [List.set_append_left _ _ hi2] at this
theorem CellsAt.sets {g n c : Nat} {T : TypeId} (z : Value) : ∀ (m i : Nat) {w : World} {cs : List Value}, CellsAt w g T n c cs → i + m = n → CellsAt (w.setCells g i (List.replicate m z)) g T n c (cs.take i ++ List.replicate m z)
 | 0, i, w, cs, h, hi => by
  have : cs.take i = cs := List.take_of_length_le (by rw [h.len]; omega)
  rw [List.replicate_zero, List.append_nil, this]
  exact h
 | m + 1, i, w, cs, h, hi => by
  have h1 := CellsAt.sets z m (i + 1) (h.set i (by omega) z) (by omega)
  have hil : i < cs.length := by rw [h.len]; omega
  rw [List.replicate_succ, World.setCells]
  have e : (cs.set i z).take (i + 1) = cs.take i ++ [z] := by
   rw [List.take_succ_eq_append_getElem (by rw [List.length_set]; exact hil), List.getElem_set_self, List.take_set_of_le (Nat.le_refl _)]
  rw [e, List.append_assoc] at h1
  exact h1
theorem CellsAt.clear {w : World} {g n c i : Nat} {T : TypeId} {cs : List Value} {z : Value} (h : CellsAt w g T n c cs) (hi : i < n) : CellsAt (w.setCells g i (List.replicate (n - i) z)) g T n c (cs.take i ++ List.replicate (n - i) z) := CellsAt.sets z (n - i) i h (by omega)
theorem CellsAt.of_owns {w : World} {B g n c : Nat} {T : TypeId} {cs : List Value} (h : w.ownsRow B T 1 (.slice (some ⟨g, 0, none⟩) n c) n cs) : CellsAt w g T n c cs := by
 obtain ⟨h0, ⟨h, -⟩ | ⟨g', cap, cur, e, -, hg, hc, -, hs, ht⟩⟩ := h
 ·cases h
 ·simp only [Value.slice.injEq, Option.some.injEq, Addr.mk.injEq, and_true, true_and] at e
  obtain ⟨rfl, rfl⟩ := e
  rw [Nat.mul_one] at h0 hs ht
  refine ⟨⟨cur.toList.drop n, ?_, ?_⟩, h0⟩
  ·unfold Blk
   rw [← ht, List.take_append_drop]
   simpa using hg
  ·rw [List.length_drop, h0, Array.length_toList, hs]
   omega
theorem CellsAt.owns {w : World} {B g n c m : Nat} {T : TypeId} {cs xs : List Value} (h : CellsAt w g T n c cs) (hx : cs.take m = xs) (hm : m ≤ n) (hB : B ≤ g) (_hn : n ≤ c) (hc : c ≤ 9223372036854775807) : w.ownsRow B T 1 (.slice (some ⟨g, 0, none⟩) m c) m xs := by
 obtain ⟨r, hr, hl⟩ := h.blk
 have hlen := h.len
 refine ⟨by rw [← hx, List.length_take]; omega, .inr ⟨g, c, (cs ++ r).toArray, rfl, hB, hr, by omega, by simpa [maxLen] using hc, by simp; omega, ?_⟩⟩
 rw [Nat.mul_one, List.toList_toArray, List.take_append_of_le_length (by omega)]
 exact hx

/-- The first j elements are looked at; i of them are kept and lie in front; behind, all is as it was. -/
structure KeptIn {α : Type} (P : α → Bool) (xs : List α) (i j : Nat) (con : α → Value) (cs : List Value) : Prop where
 lt : i < j
 len : cs.length = xs.length
 kept : cs.take i = ((xs.take j).filter fun x => !P x).map con
 num : ((xs.take j).filter fun x => !P x).length = i
 high : ∀ k (h : k < xs.length), j ≤ k → cs[k]? = some (con xs[k])
theorem KeptIn.start {α : Type} {P : α → Bool} {xs : List α} {con : α → Value} {k : Nat} (hk : k < xs.length) (hl : ∀ j (h : j < xs.length), j < k → P xs[j] = false) (hp : P xs[k] = true) : KeptIn P xs k (k + 1) con (xs.map con) := by
 have h1 : (xs.take (k + 1)).filter (fun x => !P x) = xs.take k := by
  rw [List.take_succ_eq_append_getElem hk, List.filter_append]
  have h2 : (xs.take k).filter (fun x => !P x) = xs.take k := by
   rw [List.filter_eq_self]
   intro x hx
   obtain ⟨j, hj, rfl⟩ := List.mem_iff_getElem.1 hx
   rw [List.length_take] at hj
   rw [List.getElem_take, hl j (by omega) (by omega)]
   rfl
  rw [h2, List.filter_cons, hp]
  simp
 refine ⟨by omega, by simp, ?_, ?_, fun j hj _ => by rw [List.getElem?_map, List.getElem?_eq_getElem hj]; rfl⟩
 ·rw [h1, List.map_take]
 ·rw [h1, List.length_take]; omega
theorem KeptIn.keep {α : Type} {P : α → Bool} {xs : List α} {con : α → Value} {i j : Nat} {cs : List Value} (h : KeptIn P xs i j con cs) (hj : j < xs.length) (hp : P xs[j] = false) : KeptIn P xs (i + 1) (j + 1) con (cs.set i (con xs[j])) := by
 have hl := h.len
 have hi := h.lt
 have e : (xs.take (j + 1)).filter (fun x => !P x) = (xs.take j).filter (fun x => !P x) ++ [xs[j]] := by
  rw [List.take_succ_eq_append_getElem hj, List.filter_append, List.filter_cons, hp]
  simp
 refine ⟨by omega, by rw [List.length_set]; exact hl, ?_, ?_, fun k hk hjk => ?_⟩
 ·rw [e, List.map_append, ← h.kept, List.take_succ_eq_append_getElem (by rw [List.length_set]; omega), List.getElem_set_self, List.take_set_of_le (Nat.le_refl _)]
  rfl
 ·rw [e, List.length_append, h.num]
  rfl
 ·rw [List.getElem?_set_ne (by omega)]
  exact h.high k hk (by omega)
theorem KeptIn.drop {α : Type} {P : α → Bool} {xs : List α} {con : α → Value} {i j : Nat} {cs : List Value} (h : KeptIn P xs i j con cs) (hj : j < xs.length) (hp : P xs[j] = true) : KeptIn P xs i (j + 1) con cs := by
 have hi := h.lt
 have e : (xs.take (j + 1)).filter (fun x => !P x) = (xs.take j).filter (fun x => !P x) := by
  rw [List.take_succ_eq_append_getElem hj, List.filter_append, List.filter_cons, hp]
  simp
 exact ⟨by omega, h.len, by rw [e]; exact h.kept, by rw [e]; exact h.num, fun k hk hjk => h.high k hk (by omega)⟩
theorem KeptIn.all {α : Type} {P : α → Bool} {xs : List α} {con : α → Value} {i j : Nat} {cs : List Value} (h : KeptIn P xs i j con cs) (hj : xs.length ≤ j) : (xs.filter fun x => !P x).length = i ∧ (xs.filter fun x => !P x).map con = cs.take i := by
 have e : xs.take j = xs := List.take_of_length_le hj
 have h1 := h.kept
 have h2 := h.num
 rw [e] at h1 h2
 exact ⟨h2, h1.symm⟩

end Go.Proofs.YtpoleaekcjjedaaGreatDoor

namespace Go.Proofs.YtpoleaekcjjedaaGreatDoor
open Go Go.RowKit

set_option maxRecDepth 100000 in
set_option maxHeartbeats 2000000 in
theorem DeleteFuncI (B : Nat) (v : Value) (xs : List Int) (fid : Nat) (caps : Array Value) (P : Int → Bool) (w0 w : World) (ho : w.ownsRow B 2 1 v xs.length (xs.map (Value.int .i64))) (hb : Below B w0 w) (hB : B ≤ w.heap.size)
  (eg : ∀ args w, (callFunc fid args).run Tryz.prog w = .ok (.enter fid args) w) (hP : AskI fid caps P xs B w0) :
  Calls Tryz.prog 230 #[v, .func (.func fid) #[] caps] w fun e w' => ∃ v', e = .returned v' ∧ Below B w0 w' ∧ w'.ownsRow B 2 1 v' (xs.filter fun x => !P x).length ((xs.filter fun x => !P x).map (Value.int .i64)) := by
 have HP := Lib.hid hP
 have HB := Lib.hid hb
 have HO := Lib.hid ho
 have HIX := Lib.hid (IndexFuncI B v xs fid caps P w (SliceK.of_owns (e := 2) encI_len rfl (by rw [flat_encI]; exact ho)) eg fun w' hb' x hx => hP w' (hb.trans (hb'.mono hB)) x hx)
 have HHB := Lib.hid hB
 obtain ⟨a, c, rfl, hnc, hcc⟩ := owns_slice ho
 obtain ⟨r, hr⟩ : ∃ r, r = idxI P xs := ⟨_, rfl⟩
 rw [← hr] at HIX
 have HRI := Lib.hid hr
 obtain ⟨nx, hnx⟩ : ∃ nx, nx = xs.length := ⟨_, rfl⟩
 have HNX := Lib.hid hnx
 rw [← hnx] at HIX hnc ⊢
 clear hP hb ho hB hr hnx
 by_cases hneg : r = -1
 ·subst hneg
  have HF : Hid ((xs.filter fun x => !P x) = xs) := by
   unfold Hid
   rw [List.filter_eq_self]
   intro x hx
   rw [idxI_neg.1 HRI.out.symm x hx]
   rfl
  go_enter Tryz.func230, Tryz.ntmps230
  go_wp2_with fail
  refine Calls.mono HIX.out ?_
  rintro e w1 ⟨rfl, hb1⟩
  have HB1 := Lib.hid (HB.out.trans (hb1.mono HHB.out))
  have HO1 := Lib.hid (owns_below HO.out hb1)
  clear hb1 HIX
  go_wp2_with fail
  go_ret
  refine ⟨_, rfl, HB1.out, ?_⟩
  rw [HF.out, ← HNX.out]
  have h := HO1.out
  rw [← HNX.out] at h
  exact h
 ·obtain ⟨k0, hk0, hlt0, hp0, hpl⟩ : ∃ k0 : Nat, r = (k0 : Int) ∧ k0 < nx ∧ (∃ h : k0 < xs.length, P xs[k0] = true) ∧ ∀ j (h : j < xs.length), j < k0 → P xs[j] = false := by
   have h1 := HRI.out
   have h2 := HNX.out
   unfold idxI at h1
   by_cases hf : xs.findIdx P < xs.length
   ·rw [if_pos hf] at h1
    refine ⟨xs.findIdx P, h1, by omega, ⟨hf, List.findIdx_getElem (w := hf)⟩, fun j hj hjk => ?_⟩
    have := List.not_of_lt_findIdx hjk
    simpa using this
   ·rw [if_neg hf] at h1
    exact absurd h1 hneg
  subst hk0
  obtain ⟨g, ha2, hgB⟩ : ∃ g, a = some ⟨g, 0, none⟩ ∧ B ≤ g := by
   rcases HO.out.2 with ⟨e, e2⟩ | ⟨g, cap, cur, e, h1, -⟩
   ·have := HNX.out; omega
   ·simp only [Value.slice.injEq] at e
    exact ⟨g, e.1, h1⟩
  subst ha2
  have HGB := Lib.hid hgB
  have HIN : Hid (KeptIn P xs k0 (k0 + 1) (fun x => ((Value.int .i64) x))  (xs.map (Value.int .i64))) := KeptIn.start (by have := HNX.out; omega) hpl hp0.2
  have hne1 : ((k0 : Int) == -1) = false := beq_eq_false_iff_ne.2 (by omega)
  clear hneg hp0 hpl HRI
  go_enter Tryz.func230, Tryz.ntmps230
  go_wp2_with fail
  refine Calls.mono HIX.out ?_
  rintro e w1 ⟨rfl, hb1⟩
  have HB1 := Lib.hid (HB.out.trans (hb1.mono HHB.out))
  have HO1 : Hid (CellsAt w1 g 2 nx c (xs.map (Value.int .i64))) := CellsAt.of_owns (by have h := owns_below HO.out hb1; rw [← HNX.out] at h; exact h)
  clear hb1 HIX
  go_wp2_with fail
  go_loopw [5, 6, 7] (fun s5 s6 _ wr => ∃ (i j : Nat) (cs : List Value), s5 = .int .i64 i ∧ s6 = .int .i64 j ∧ j ≤ nx ∧ Below B w0 wr ∧ CellsAt wr g 2 nx c cs ∧ KeptIn P xs i j (fun x => (Value.int .i64) x) cs) (fun _ s6 _ _ => nx - (intOf s6).toNat)
  case atStart => exact ⟨k0, k0 + 1, _, rfl, by go_num, by omega, HB1.out, HO1.out, HIN.out⟩
  case round =>
   obtain ⟨i, j, cs, rfl, rfl, hj, hbl, hca, hki⟩ := hrel
   have HBL := Lib.hid hbl
   have HCA := Lib.hid hca
   have HKI := Lib.hid hki
   have hij := hki.lt
   by_cases hlt : j < nx
   ·have hltx : j < xs.length := by have := HNX.out; omega
    obtain ⟨x, hx⟩ : ∃ x, x = xs[j] := ⟨_, rfl⟩
    have HX := Lib.hid hx
    have cj : wr.cell? ⟨g, j, none⟩ = some (.int .i64 x) := by
     have h1 := hca.cell j (by omega)
     have h2 := hki.high j hltx (Nat.le_refl _)
     rw [h1, h2, hx]
    have ci := hca.cell_some i (by omega)
    obtain ⟨old, ci⟩ := ci
    have fi := hca.frozen i
    have hgl := hca.lt
    have HC := Lib.hid (HP.out wr hbl x (by rw [hx]; exact List.getElem_mem _))
    obtain ⟨b, hb⟩ : ∃ b, b = P x := ⟨_, rfl⟩
    rw [← hb] at HC
    have HBP := Lib.hid hb
    clear hb hx hbl hca hki ci fi
    go_wp2_with fail
    refine Calls.mono HC.out ?_
    rintro e w2 ⟨rfl, hb2⟩
    have HBL2 := Lib.hid (HBL.out.trans (hb2.mono (show B ≤ wr.heap.size from by have := HGB.out; omega)))
    have hca2 := HCA.out.below hb2
    have HCA2 := Lib.hid hca2
    obtain ⟨old, ci⟩ := hca2.cell_some i (by omega)
    have fi := hca2.frozen i
    clear hb2 hca2 cj
    cases b
    ·go_wp2_with fail
     go_roundw
     case rel => exact ⟨i + 1, j + 1, cs.set i (.int .i64 x), by go_num, by go_num, by omega, HBL2.out.setCell HGB.out _, HCA2.out.set i (by omega) _, by have h := HKI.out.keep hltx (by rw [← HX.out]; exact HBP.out.symm); rw [← HX.out] at h; exact h⟩
     case measure => simp [intOf]; omega
    ·go_wp2_with fail
     go_roundw
     case rel => exact ⟨i, j + 1, cs, rfl, by go_num, by omega, HBL2.out, HCA2.out, HKI.out.drop hltx (by rw [← HX.out]; exact HBP.out.symm)⟩
     case measure => simp [intOf]; omega
   ·obtain rfl : j = nx := by omega
    have HLEN : Hid ((xs.filter fun x => !P x).length = i ∧ i ≤ j ∧ (xs.filter fun x => !P x).map (Value.int .i64) = cs.take i) := by
     have h := hki.all (by have := HNX.out; omega)
     exact ⟨h.1, by omega, h.2⟩
    have hij2 : i < j := hij
    have hcl : ∀ ty, (Builtin.clear_ #[83] ty #[.slice (some ⟨g, i, none⟩) (j - i) (c - i)]).run Tryz.prog wr = .ok (.tuple #[]) (wr.setCells g i (List.replicate (j - i) (.int .i64 0))) :=
     fun ty => Lib.run_clear_slice wr _ _ ty _ Tryz.underlying83 (fun w => by kernel_rfl) rfl rfl g i _ _ (by omega) (fun t ht => by obtain ⟨o, ho⟩ := hca.cell_some (i + t) (by omega); rw [ho]; rfl) (fun t ht => hca.frozen (i + t))
    have HCAF : Hid (CellsAt (wr.setCells g i (List.replicate (j - i) (.int .i64 0))) g 2 j c (cs.take i ++ List.replicate (j - i) (.int .i64 0))) := hca.clear hij2
    have HBF : Hid (Below B w0 (wr.setCells g i (List.replicate (j - i) (.int .i64 0)))) := below_setCells HGB.out _ _ _ hbl
    clear hbl hca hki hij
    go_wp2_with fail
    go_ret
    refine ⟨_, rfl, HBF.out, ?_⟩
    rw [HLEN.out.1, HLEN.out.2.2]
    exact HCAF.out.owns (by rw [List.take_append_of_le_length (by have := HCAF.out.len; simp at this ⊢; omega), List.take_take]; simp) HLEN.out.2.1 HGB.out hnc hcc

end Go.Proofs.YtpoleaekcjjedaaGreatDoor
