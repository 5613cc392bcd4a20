/-
  The rows and the edges of the deterministic system found: each edge leads from a row to the set behind it. Plain.
  A search that meets states and looks at them later, in the order met. Plain; no program in sight.
  The states of the deterministic system in the order found, and the first word that leads to each. Plain.
  The implementation's firstAfter: the first trace after which the states are as asked.
  States from which an endless path of internal edges begins, and the first trace to one. Plain.
  The library's slices.IndexFunc and slices.ContainsFunc at a slice of edges, with a function that may lay blocks of its own.
  What the implementation's out computes: the edges from a state.
  What the library's Repeat computes of one truth value.
-/
import Derived.Test.YtpoleaekcjjedaaGreatDoorD10
import Derived.Test.YtpoleaekcjjedaaGreatDoorD3
import Derived.Test.YtpoleaekcjjedaaGreatDoorD13
import Derived.Test.YtpoleaekcjjedaaGreatDoorD15
import Derived.Test.YtpoleaekcjjedaaGreatDoorD19
import Derived.Test.YtpoleaekcjjedaaGreatDoorD17
import Derived.Test.YtpoleaekcjjedaaGreatDoorProg
import Derived.Test.YtpoleaekcjjedaaGreatDoorD1
import Derived.Test.YtpoleaekcjjedaaGreatDoorD5
import Derived.Test.YtpoleaekcjjedaaGreatDoorD6
import Derived.Laws.CopyOwn
import Derived.Deep.RegionLaw
namespace Go.Proofs.YtpoleaekcjjedaaGreatDoor
open Go Go.RowKit

/-- Each edge leads to the set behind it. -/
def EOk (t : Lts) (st : DNet) : Prop := ∀ e ∈ st.edges, ∃ cur, st.rows[e.src.toNat]? = some cur ∧ nextS t cur e.lab ≠ [] ∧ st.rows[e.dst.toNat]? = some (nextS t cur e.lab)
theorem dadd_get (rows : List (List Int)) (r : List Int) : (dadd rows r)[dplace rows r]? = some r := by
  unfold dadd
  have h2 := dplace_le rows r
  split
  · next h => rw [List.getElem?_eq_getElem h, dplace_get h]
  · next h =>
    have h3 : dplace rows r = rows.length := by omega
    rw [h3, List.getElem?_concat_length]
theorem dadd_old {rows : List (List Int)} (r : List Int) {i : Nat} {cur : List Int} (h : rows[i]? = some cur) : (dadd rows r)[i]? = some cur := by
  unfold dadd
  split
  · exact h
  · rw [List.getElem?_append_left (List.getElem?_eq_some_iff.1 h).1]; exact h
theorem EOk.step {t : Lts} {st : DNet} {i : Nat} {cur : List Int} (h : EOk t st) (hc : st.rows[i]? = some cur) (k : Nat) : EOk t (dstep t i cur st k) ∧ (dstep t i cur st k).rows[i]? = some cur := by
  unfold dstep
  split
  · exact ⟨h, hc⟩
  · next hne =>
    refine ⟨fun e he => ?_, dadd_old _ hc⟩
    rcases List.mem_append.1 he with he | he
    · obtain ⟨c, h1, h2, h3⟩ := h e he
      exact ⟨c, dadd_old _ h1, h2, dadd_old _ h3⟩
    · rw [List.mem_singleton] at he
      subst he
      refine ⟨cur, dadd_old _ (by rw [Int.toNat_natCast]; exact hc), hne, ?_⟩
      rw [Int.toNat_natCast]
      exact dadd_get _ _
theorem EOk.mid {t : Lts} {st : DNet} {i : Nat} {cur : List Int} (h : EOk t st) (hc : st.rows[i]? = some cur) : ∀ j, EOk t (dmid t i cur st j) ∧ (dmid t i cur st j).rows[i]? = some cur
  | 0 => ⟨h, hc⟩
  | j + 1 => by rw [dmid_succ]; exact (EOk.mid h hc j).1.step (EOk.mid h hc j).2 j
theorem EOk.at (t : Lts) : ∀ n, EOk t (dAt t n)
  | 0 => fun e he => by simp [dAt] at he
  | n + 1 => by
    rw [dAt]
    unfold drow
    split
    · exact EOk.at t n
    · next cur hc => exact ((EOk.at t n).mid hc _).1
theorem dok_eok {t : Lts} {st : DNet} (h : DOk t st) : EOk t st := by
  obtain ⟨⟨n, -, rfl, -⟩, -⟩ := h
  exact EOk.at t n
/-- A row, when its turn came. -/
theorem DOk.row {t : Lts} {st : DNet} (h : DOk t st) {i : Nat} (hi : i < st.rows.length) : ∃ cur, (dAt t i).rows[i]? = some cur ∧ st.rows[i]? = some cur ∧ (∀ j, j ≤ t.labels.length - 1 → DLe (dmid t i cur (dAt t i) j) st) ∧ dmid t i cur (dAt t i) (t.labels.length - 1) = dAt t (i + 1) := by
  obtain ⟨⟨m, hm, em, lm⟩, -⟩ := h
  have h1 := hm i (by omega)
  have hcur : (dAt t i).rows[i]? = some (dAt t i).rows[i] := List.getElem?_eq_getElem h1
  have h2 := dAt_le t i (m - i)
  rw [show i + (m - i) = m from by omega, em] at h2
  refine ⟨_, hcur, ?_, fun j hj => ?_, (dAt_succ hcur).symm⟩
  · obtain ⟨r, hr⟩ := h2.rows
    rw [hr, List.getElem?_append_left h1]
    exact hcur
  · have h3 := dmid_le t i (dAt t i).rows[i] (dAt t i) j (t.labels.length - 1 - j)
    rw [show j + (t.labels.length - 1 - j) = t.labels.length - 1 from by omega, ← dAt_succ hcur] at h3
    have h4 := dAt_le t (i + 1) (m - (i + 1))
    rw [show i + 1 + (m - (i + 1)) = m from by omega, em] at h4
    exact h3.trans h4
/-- An edge is found by its state and label. -/
theorem go_edge {t : Lts} {st : DNet} (hv : Valid t) (h : DOk t st) {e : Edge} (he : e ∈ st.edges) {k : Nat} (hk : k + 1 < t.labels.length) (hl : e.lab = (k : Int) + 1) : goTo (dSys t st) e.src (labK t.labels k) = e.dst := by
  have hG := dok_good hv h
  have hs0 := (hG.edges e he).1.1
  have hlk : labK t.labels k = t.labels[k + 1] := by unfold labK; rw [List.getD_eq_getElem?_getD, List.getElem?_eq_getElem hk]; rfl
  unfold goTo
  rw [if_neg (by omega)]
  have hfind : st.edges.find? (hitB (dSys t st) e.src (labK t.labels k)) = some e := by
    obtain ⟨j, hj, rfl⟩ := List.mem_iff_getElem.1 he
    refine find_at hj (fun i hi hij => ?_) ?_
    · unfold hitB
      rw [Bool.and_eq_false_iff]
      by_cases hs : st.edges[i].src = st.edges[j].src
      · right
        rw [beq_eq_false_iff_ne]
        intro hb
        obtain ⟨h1, h2, h3⟩ := lab_get hG (List.getElem_mem hi)
        have h4 : (labAt (dSys t st) st.edges[i]) = t.labels[st.edges[i].lab.toNat] := h2
        rw [h4, hlk] at hb
        have := labels_inj hv.labels _ _ h1 hk hb
        have hup := List.pairwise_iff_getElem.1 (dok_up h) i j hi hj hij
        omega
      · left
        rw [beq_eq_false_iff_ne]
        exact hs
    · unfold hitB
      obtain ⟨h1, h2, h3⟩ := lab_get hG he
      have h4 : (labAt (dSys t st) st.edges[j]) = t.labels[st.edges[j].lab.toNat] := h2
      have h5 : st.edges[j].lab.toNat = k + 1 := by omega
      rw [h4, hlk]
      simp [h5]
  show ((st.edges.find? _).map Edge.dst).getD (-1) = e.dst
  rw [hfind]
  rfl
theorem go_none {t : Lts} {st : DNet} (hv : Valid t) (h : DOk t st) {q : Int} {k : Nat} (hk : k + 1 < t.labels.length) (hn : ∀ e ∈ st.edges, e.src = q → e.lab ≠ (k : Int) + 1) : goTo (dSys t st) q (labK t.labels k) = -1 := by
  have hG := dok_good hv h
  have hlk : labK t.labels k = t.labels[k + 1] := by unfold labK; rw [List.getD_eq_getElem?_getD, List.getElem?_eq_getElem hk]; rfl
  unfold goTo
  split
  · rfl
  · have hfind : st.edges.find? (hitB (dSys t st) q (labK t.labels k)) = none := by
      refine find_none fun j hj => ?_
      unfold hitB
      rw [Bool.and_eq_false_iff]
      by_cases hs : st.edges[j].src = q
      · right
        rw [beq_eq_false_iff_ne]
        intro hb
        obtain ⟨h1, h2, h3⟩ := lab_get hG (List.getElem_mem hj)
        have h4 : (labAt (dSys t st) st.edges[j]) = t.labels[st.edges[j].lab.toNat] := h2
        rw [h4, hlk] at hb
        have := labels_inj hv.labels _ _ h1 hk hb
        exact hn _ (List.getElem_mem hj) hs (by omega)
      · left
        rw [beq_eq_false_iff_ne]
        exact hs
    show ((st.edges.find? _).map Edge.dst).getD (-1) = -1
    rw [hfind]
    rfl
/-- Where a row's label leads: nowhere, or to the set behind it. -/
theorem go_row {t : Lts} {st : DNet} (hv : Valid t) (h : DOk t st) {i : Nat} {cur : List Int} (hc : st.rows[i]? = some cur) {k : Nat} (hk : k + 1 < t.labels.length) :
    (nextS t cur ((k : Int) + 1) = [] ∧ goTo (dSys t st) i (labK t.labels k) = -1) ∨ (nextS t cur ((k : Int) + 1) ≠ [] ∧ ∃ j : Nat, goTo (dSys t st) i (labK t.labels k) = j ∧ st.rows[j]? = some (nextS t cur ((k : Int) + 1))) := by
  have hG := dok_good hv h
  have hE := dok_eok h
  by_cases hne : nextS t cur ((k : Int) + 1) = []
  · refine .inl ⟨hne, go_none hv h hk fun e he hs hl => ?_⟩
    obtain ⟨c, h1, h2, -⟩ := hE e he
    rw [hs, Int.toNat_natCast, hc] at h1
    cases h1
    rw [hl] at h2
    exact h2 hne
  · refine .inr ⟨hne, ?_⟩
    have hi := (List.getElem?_eq_some_iff.1 hc).1
    obtain ⟨c, h1, h2, h3, h4⟩ := h.row hi
    rw [hc] at h2
    cases h2
    obtain ⟨r, hr⟩ := (h3 (k + 1) (by omega)).edges
    have hmem : (⟨(i : Int), (k : Int) + 1, (dplace (dmid t i cur (dAt t i) k).rows (nextS t cur (k + 1)) : Int)⟩ : Edge) ∈ st.edges := by
      rw [hr, dmid_succ]
      unfold dstep
      rw [if_neg hne]
      simp
    have hg := go_edge hv h hmem hk rfl
    obtain ⟨c2, k1, -, k3⟩ := hE _ hmem
    simp only [Int.toNat_natCast] at k1 k3
    rw [hc] at k1
    cases k1
    exact ⟨_, hg, k3⟩
/-- The number that a row's label leads to, when its turn came. -/
theorem go_place {t : Lts} {st : DNet} (hv : Valid t) (h : DOk t st) {i : Nat} {cur : List Int} (hc : (dAt t i).rows[i]? = some cur) (hi : i < st.rows.length) {k : Nat} (hk : k + 1 < t.labels.length) (hne : nextS t cur ((k : Int) + 1) ≠ []) :
    goTo (dSys t st) i (labK t.labels k) = (dplace (dmid t i cur (dAt t i) k).rows (nextS t cur ((k : Int) + 1)) : Int) := by
  obtain ⟨c, h1, h2, h3, h4⟩ := h.row hi
  rw [hc] at h1
  cases h1
  obtain ⟨r, hr⟩ := (h3 (k + 1) (by omega)).edges
  have hmem : (⟨(i : Int), (k : Int) + 1, (dplace (dmid t i cur (dAt t i) k).rows (nextS t cur (k + 1)) : Int)⟩ : Edge) ∈ st.edges := by
    rw [hr, dmid_succ]
    unfold dstep
    rw [if_neg hne]
    simp
  exact go_edge hv h hmem hk rfl

/-- A state's set; none for no state. -/
def setOf (st : DNet) (q : Int) : List Int := if q < 0 then [] else st.rows.getD q.toNat []
theorem nextS_nil {t : Lts} (hv : Valid t) (k : Int) : nextS t [] k = [] := by
  have hs := nextS_is hv [] k
  refine List.eq_nil_iff_forall_not_mem.2 fun x hx => ?_
  obtain ⟨a, ⟨e, -, -, he, -⟩, -⟩ := (hs.mem x).1 hx
  cases he
theorem setOf_at {st : DNet} {i : Nat} {cur : List Int} (h : st.rows[i]? = some cur) : setOf st (i : Int) = cur := by
  unfold setOf
  rw [if_neg (by omega), Int.toNat_natCast, List.getD_eq_getElem?_getD, h]
  rfl
theorem setOf_neg {st : DNet} {q : Int} (h : q < 0) : setOf st q = [] := by unfold setOf; rw [if_pos h]
/-- A label leads to the set behind the set. -/
theorem set_go {t : Lts} {st : DNet} (hv : Valid t) (h : DOk t st) {q : Int} (hq : q < (dSys t st).states) {k : Nat} (hk : k + 1 < t.labels.length) : setOf st (goTo (dSys t st) q (labK t.labels k)) = nextS t (setOf st q) ((k : Int) + 1) := by
  by_cases h0 : q < 0
  · rw [goTo_neg h0, setOf_neg (by decide), setOf_neg h0, nextS_nil hv]
  · have hq2 : q.toNat < st.rows.length := by have : q < (st.rows.length : Int) := hq; omega
    have hc : st.rows[q.toNat]? = some st.rows[q.toNat] := List.getElem?_eq_getElem hq2
    have e0 : q = ((q.toNat : Nat) : Int) := by omega
    rw [e0, setOf_at hc]
    rcases go_row hv h hc hk with ⟨h1, h2⟩ | ⟨h1, j, h2, h3⟩
    · rw [h2, setOf_neg (by decide), h1]
    · rw [h2, setOf_at h3]
theorem set_first {t : Lts} {st : DNet} (h : DOk t st) : setOf st 0 = firstS t := by
  obtain ⟨⟨m, hm, em, lm⟩, -⟩ := h
  obtain ⟨r, hr⟩ := (dAt_le t 0 m).rows
  rw [Nat.zero_add, em] at hr
  refine setOf_at (i := 0) ?_
  rw [hr, List.getElem?_append_left (by simp [dAt])]
  rfl
theorem set_some {t : Lts} {st : DNet} (hv : Valid t) (h : DOk t st) {q : Int} (h0 : 0 ≤ q) (hq : q < (dSys t st).states) : setOf st q ≠ [] := by
  have hG := dok_good hv h
  have hq2 : q.toNat < st.rows.length := by have : q < (st.rows.length : Int) := hq; omega
  have e0 : q = ((q.toNat : Nat) : Int) := by omega
  rw [e0, setOf_at (List.getElem?_eq_getElem hq2)]
  exact (hG.rows _ (List.getElem_mem hq2)).2.2

end Go.Proofs.YtpoleaekcjjedaaGreatDoor

namespace Go.Proofs.YtpoleaekcjjedaaGreatDoor
open Go Go.RowKit

section
variable {S : Type} {s0 : S} {step : S → Nat → S} {m : Nat}
/-- The first state met where something holds is behind the first word that leads to such a state. -/
theorem NSt.look {dead F : S → Prop} {N : List (List Nat)} {i : Nat} {u : List Nat} (hd : ∀ s a, dead s → dead (step s a)) (hdF : ∀ s, dead s → ¬ F s) (h : NSt s0 step m dead (fun _ => False) N i 0) (hu : N[i]? = some u) (hF : F (wAt s0 step u))
    (hno : ∀ (j : Nat) (v : List Nat), j < i → N[j]? = some v → ¬ F (wAt s0 step v)) : Least s0 step m F u := by
  obtain ⟨hi, hiu⟩ := List.getElem?_eq_some_iff.1 hu
  refine ⟨h.ok u (by rw [← hiu]; exact List.getElem_mem _), hF, fun v hv hs hFv => ?_⟩
  have hord : ∀ j (hj : j < N.length), ¬ j < i → sle u N[j] := fun j hj hn => by
    rcases Nat.lt_trichotomy j i with h1 | h1 | h1
    · exact absurd h1 hn
    · subst h1; exact .inl hiu.symm
    · have := List.pairwise_iff_getElem.1 h.sorted i j hi hj h1
      rw [hiu] at this
      exact .inr this
  rcases NSt.known hd h (fun x => slt x u) (fun a b h1 h2 => slt_trans h2 h1) (fun j v a hj ha hs => .inl (by
    obtain ⟨hjl, e⟩ := List.getElem?_eq_some_iff.1 hj
    refine Decidable.byContradiction fun hn => ?_
    have h1 := hord j hjl hn
    rw [e] at h1
    exact slt_irrefl _ (sle_lt h1 (slt_trans (slt_cons a v) hs)))) v hv hs with h1 | ⟨x, hx, he, hsx⟩
  · exact hdF _ h1 hFv
  · obtain ⟨j, hj, rfl⟩ := List.mem_iff_getElem.1 hx
    by_cases hji : j < i
    · exact hno j _ hji (List.getElem?_eq_getElem hj) (by rw [he]; exact hFv)
    · exact slt_irrefl _ (sle_lt (hord j hj hji) (sle_lt hsx hs))
theorem NSt.lookNone {dead F : S → Prop} {N : List (List Nat)} {i : Nat} (hd : ∀ s a, dead s → dead (step s a)) (hdF : ∀ s, dead s → ¬ F s) (h : NSt s0 step m dead (fun _ => False) N i 0) (hi : N.length ≤ i)
    (hno : ∀ (j : Nat) (v : List Nat), N[j]? = some v → ¬ F (wAt s0 step v)) : NoWord s0 step m F := by
  intro v hv hFv
  rcases NSt.known hd h (fun _ => True) (fun _ _ _ _ => trivial) (fun j v a hj _ _ => .inl (by have := (List.getElem?_eq_some_iff.1 hj).1; omega)) v hv trivial with h1 | ⟨x, hx, he, -⟩
  · exact hdF _ h1 hFv
  · obtain ⟨j, hj, rfl⟩ := List.mem_iff_getElem.1 hx
    exact hno j _ (List.getElem?_eq_getElem hj) (by rw [he]; exact hFv)
/-- Of a search that is done: the first word where something holds. -/
theorem NSt.pick {dead F : S → Prop} {N : List (List Nat)} {i j : Nat} {u : List Nat} (hd : ∀ s a, dead s → dead (step s a)) (hdF : ∀ s, dead s → ¬ F s) (h : NSt s0 step m dead (fun _ => False) N i 0) (hi : N.length ≤ i) (hu : N[j]? = some u) (hF : F (wAt s0 step u))
    (hno : ∀ (k : Nat) (v : List Nat), k < j → N[k]? = some v → ¬ F (wAt s0 step v)) : Least s0 step m F u := by
  obtain ⟨hj, hju⟩ := List.getElem?_eq_some_iff.1 hu
  refine ⟨h.ok u (by rw [← hju]; exact List.getElem_mem _), hF, fun v hv hs hFv => ?_⟩
  rcases NSt.known hd h (fun _ => True) (fun _ _ _ _ => trivial) (fun j v a hj _ _ => .inl (by have := (List.getElem?_eq_some_iff.1 hj).1; omega)) v hv trivial with h1 | ⟨x, hx, he, hsx⟩
  · exact hdF _ h1 hFv
  · obtain ⟨k, hk, rfl⟩ := List.mem_iff_getElem.1 hx
    by_cases hkj : k < j
    · exact hno k _ hkj (List.getElem?_eq_getElem hk) (by rw [he]; exact hFv)
    · have h2 : sle u N[k] := by
        rcases Nat.lt_trichotomy k j with h1 | h1 | h1
        · exact absurd h1 hkj
        · subst h1; exact .inl hju.symm
        · have := List.pairwise_iff_getElem.1 h.sorted j k hj hk h1
          rw [hju] at this
          exact .inr this
      exact slt_irrefl _ (sle_lt h2 (sle_lt hsx hs))
end

end Go.Proofs.YtpoleaekcjjedaaGreatDoor

namespace Go.Proofs.YtpoleaekcjjedaaGreatDoor
open Go Go.RowKit

theorem bothL_self {d : Lts} (h : LabelsOk d.labels) : bothL d d = d.labels := by
  unfold bothL
  refine labSet_eq (labels_pair h) fun x => ?_
  have h0 : tauT ∈ d.labels := by
    have : d.labels[0]'h.pos = tauT := toList_inj (by rw [h.first h.pos, tauT_list])
    rw [← this]
    exact List.getElem_mem _
  rw [List.mem_cons, List.mem_append]
  exact ⟨fun hx => hx.elim (fun e => e ▸ h0) (fun hx => hx.elim id id), fun hx => .inr (.inl hx)⟩
theorem difS_twin (d : Lts) (L : List ByteArray) : ∀ u, (difS d d L u).2 = (difS d d L u).1
  | [] => rfl
  | k :: u => by rw [difS_cons]; simp only; rw [difS_twin d L u]

/-- The words found when i states are done, of the next one k labels. -/
structure WaySt (t : Lts) (st : DNet) (N : List (List Nat)) (i k : Nat) : Prop where
  nst : NSt ((0 : Int), (0 : Int)) (goBoth (dSys t st) (dSys t st) t.labels) (t.labels.length - 1) deadB (fun _ => False) N i k
  num : ∀ (j : Nat) (u : List Nat), N[j]? = some u → difS (dSys t st) (dSys t st) t.labels u = ((j : Int), (j : Int))
  len : ∀ cur, (dAt t i).rows[i]? = some cur → N.length = (dmid t i cur (dAt t i) k).rows.length
  last : i = st.rows.length → N.length = st.rows.length
  upto : i ≤ st.rows.length
  few : N.length ≤ st.rows.length
theorem WaySt.start {t : Lts} {st : DNet} (hv : Valid t) (h : DOk t st) : WaySt t st [[]] 0 0 := by
  have hG := (dok_good hv h).some
  refine ⟨NSt.start (by rintro ⟨h1, -⟩; exact absurd h1 (by decide)) (fun h => h), fun j u hu => ?_, fun cur _ => ?_, fun e => by omega, Nat.zero_le _, ?_⟩
  · have hj := (List.getElem?_eq_some_iff.1 hu).1
    simp at hj
    subst hj
    simp at hu
    subst hu
    rfl
  · rw [dmid_zero]; simp [dAt]
  · simp; omega
theorem WaySt.at {t : Lts} {st : DNet} {N : List (List Nat)} {i k : Nat} (h : WaySt t st N i k) {u : List Nat} (hu : N[i]? = some u) (k' : Nat) : difS (dSys t st) (dSys t st) t.labels (k' :: u) = (goTo (dSys t st) i (labK t.labels k'), goTo (dSys t st) i (labK t.labels k')) := by
  rw [difS_cons, h.num i u hu]
theorem WaySt.pass {t : Lts} {st : DNet} (hv : Valid t) (hok : DOk t st) {N : List (List Nat)} {i k : Nat} (h : WaySt t st N i k) {u : List Nat} (hu : N[i]? = some u) (hk : k + 1 < t.labels.length)
    (hd : goTo (dSys t st) i (labK t.labels k) < 0 ∨ ∃ j : Nat, j < N.length ∧ goTo (dSys t st) i (labK t.labels k) = j) : WaySt t st N i (k + 1) := by
  have hi : i < st.rows.length := Nat.lt_of_lt_of_le (List.getElem?_eq_some_iff.1 hu).1 h.few
  obtain ⟨cur, hc, hcs, hle, hlast⟩ := hok.row hi
  have hat := h.at hu k
  refine ⟨h.nst.pass hu ?_, h.num, fun cur' hc' => ?_, h.last, h.upto, h.few⟩
  · rcases hd with hd | ⟨j, hj, he⟩
    · exact .inl (by show deadB (difS _ _ _ (k :: u)); rw [hat]; exact ⟨hd, hd⟩)
    · refine .inr ⟨N[j], List.getElem_mem _, ?_⟩
      show difS _ _ _ N[j] = difS _ _ _ (k :: u)
      rw [hat, h.num j N[j] (List.getElem?_eq_getElem hj), he]
  · rw [hc] at hc'
    cases hc'
    rw [dmid_succ, h.len cur hc]
    by_cases hne : nextS t cur ((k : Int) + 1) = []
    · rw [dstep_none hne]
    · have hp := go_place hv hok hc hi hk hne
      rcases hd with hd | ⟨j, hj, he⟩
      · rw [hp] at hd; omega
      · rw [dstep_old hne (by rw [← h.len cur hc]; rw [hp] at he; omega)]
theorem WaySt.meet {t : Lts} {st : DNet} (hv : Valid t) (hok : DOk t st) {N : List (List Nat)} {i k : Nat} (h : WaySt t st N i k) {u : List Nat} (hu : N[i]? = some u) (hk : k + 1 < t.labels.length)
    (h0 : ¬ goTo (dSys t st) i (labK t.labels k) < 0) (hn : ∀ j : Nat, j < N.length → goTo (dSys t st) i (labK t.labels k) ≠ j) : goTo (dSys t st) i (labK t.labels k) = N.length ∧ WaySt t st (N ++ [k :: u]) i (k + 1) := by
  have hi : i < st.rows.length := Nat.lt_of_lt_of_le (List.getElem?_eq_some_iff.1 hu).1 h.few
  obtain ⟨cur, hc, hcs, hle, hlast⟩ := hok.row hi
  have hat := h.at hu k
  have hlen := h.len cur hc
  have hne : nextS t cur ((k : Int) + 1) ≠ [] := fun e => by
    rcases go_row hv hok hcs hk with ⟨-, h2⟩ | ⟨h1, -⟩
    · omega
    · exact h1 e
  have hp := go_place hv hok hc hi hk hne
  have hpl := dplace_le (dmid t i cur (dAt t i) k).rows (nextS t cur ((k : Int) + 1))
  have hpn : ¬ dplace (dmid t i cur (dAt t i) k).rows (nextS t cur ((k : Int) + 1)) < (dmid t i cur (dAt t i) k).rows.length := fun hlt => hn _ (by rw [hlen]; exact hlt) hp
  have hto : goTo (dSys t st) i (labK t.labels k) = N.length := by rw [hp, hlen]; omega
  have hlen2 : (N ++ [k :: u]).length = (dmid t i cur (dAt t i) (k + 1)).rows.length := by
    rw [dmid_succ, dstep_new hne hpn, List.length_append, List.length_append, hlen]
    rfl
  refine ⟨hto, h.nst.meet hu (by omega) ?_ (fun h => h) (fun x hx e => ?_), fun j x hx => ?_, fun cur' hc' => ?_, fun e => by omega, h.upto, ?_⟩
  · show ¬ deadB (difS _ _ _ (k :: u))
    rw [hat]
    rintro ⟨h1, -⟩
    exact h0 h1
  · obtain ⟨j, hj, rfl⟩ := List.mem_iff_getElem.1 hx
    have e2 : difS (dSys t st) (dSys t st) t.labels N[j] = difS (dSys t st) (dSys t st) t.labels (k :: u) := e
    rw [hat, h.num j N[j] (List.getElem?_eq_getElem hj)] at e2
    exact hn j hj (Prod.ext_iff.1 e2).1.symm
  · by_cases hj : j < N.length
    · rw [List.getElem?_append_left hj] at hx
      exact h.num j x hx
    · have hj2 := (List.getElem?_eq_some_iff.1 hx).1
      rw [List.length_append, List.length_singleton] at hj2
      have e : j = N.length := by omega
      subst e
      rw [List.getElem?_concat_length] at hx
      cases hx
      rw [hat, hto]
  · rw [hc] at hc'
    cases hc'
    exact hlen2
  · rw [hlen2]
    obtain ⟨r, hr⟩ := (hle (k + 1) (by omega)).rows
    rw [hr, List.length_append]
    omega
theorem WaySt.next {t : Lts} {st : DNet} (hok : DOk t st) {N : List (List Nat)} {i : Nat} (h : WaySt t st N i (t.labels.length - 1)) (hi : i < N.length) : WaySt t st N (i + 1) 0 := by
  have hi2 : i < st.rows.length := Nat.lt_of_lt_of_le hi h.few
  obtain ⟨cur, hc, hcs, hle, hlast⟩ := hok.row hi2
  have hlen := h.len cur hc
  rw [hlast] at hlen
  refine ⟨h.nst.next, h.num, fun cur' hc' => by rw [dmid_zero]; exact hlen, fun e => ?_, hi2, h.few⟩
  obtain ⟨⟨m, hm, em, lm⟩, -⟩ := hok
  rw [hlen, e, lm, em]
  exact lm
theorem WaySt.done {t : Lts} {st : DNet} (hok : DOk t st) {N : List (List Nat)} {i : Nat} (h : WaySt t st N i 0) (hi : ¬ i < N.length) : N.length = st.rows.length := by
  by_cases e : i = st.rows.length
  · exact h.last e
  · exfalso
    have hi2 : i < st.rows.length := by have := h.upto; omega
    obtain ⟨cur, hc, -, -, -⟩ := hok.row hi2
    have h1 := h.len cur hc
    rw [dmid_zero] at h1
    have := (List.getElem?_eq_some_iff.1 hc).1
    omega
/-- The words to all states, in the order of the states. -/
def WaysAll (t : Lts) (st : DNet) (N : List (List Nat)) : Prop := N.length = st.rows.length ∧ WaySt t st N st.rows.length 0
theorem WaySt.all {t : Lts} {st : DNet} (hok : DOk t st) {N : List (List Nat)} {i : Nat} (h : WaySt t st N i 0) (hi : ¬ i < N.length) : WaysAll t st N := by
  have h1 := h.done hok hi
  have h2 := h.upto
  have e : i = st.rows.length := by omega
  subst e
  exact ⟨h1, h⟩
theorem WaySt.short {t : Lts} {st : DNet} {N : List (List Nat)} {i k : Nat} (h : WaySt t st N i k) : ∀ (j : Nat) (u : List Nat), N[j]? = some u → u.length ≤ j := by
  intro j
  induction j using Nat.strongRecOn with
  | _ j ih =>
    intro u hu
    obtain ⟨hj, hju⟩ := List.getElem?_eq_some_iff.1 hu
    rcases h.nst.par u (by rw [← hju]; exact List.getElem_mem _) with rfl | ⟨a, j', v, rfl, hv, -⟩
    · exact Nat.zero_le _
    · obtain ⟨hj', hjv⟩ := List.getElem?_eq_some_iff.1 hv
      have hlt : j' < j := by
        rcases Nat.lt_trichotomy j' j with h1 | h1 | h1
        · exact h1
        · exfalso
          subst h1
          rw [hju] at hjv
          have := congrArg List.length hjv
          simp at this
        · exfalso
          have := List.pairwise_iff_getElem.1 h.nst.sorted j j' hj hj' h1
          rw [hju, hjv] at this
          exact slt_irrefl _ (slt_trans this (slt_cons a v))
      have := ih j' hlt v hv
      rw [List.length_cons]
      omega
theorem WaysAll.few {t : Lts} {st : DNet} (hs : DSmall st) {N : List (List Nat)} (h : WaysAll t st N) {j : Nat} {u : List Nat} (hu : N[j]? = some u) : (txtsOf t.labels u).length ≤ 40 := by
  have h1 := h.2.short j u hu
  have h2 := (List.getElem?_eq_some_iff.1 hu).1
  have h3 := h.1
  have h4 := hs.1
  simp only [txtsOf, List.length_map, List.length_reverse]
  omega
/-- The first state, in the order of the states, where something holds: its word is the first one. -/
theorem WaysAll.least {t : Lts} {st : DNet} {N : List (List Nat)} (h : WaysAll t st N) {G : Int → Prop} {j : Nat} {u : List Nat} (hu : N[j]? = some u) (hG : G (j : Int)) (hno : ∀ k : Nat, k < j → ¬ G (k : Int)) :
    Least ((0 : Int), (0 : Int)) (goBoth (dSys t st) (dSys t st) t.labels) (t.labels.length - 1) (liveF fun p => G p.1) u := by
  refine NSt.pick (deadB_step _ _ _) liveF_not h.2.nst (by rw [h.1]; exact Nat.le_refl _) hu ?_ fun k v hk hv hF => ?_
  · show liveF _ (difS _ _ _ u)
    rw [h.2.num j u hu]
    exact ⟨fun hd => by have := hd.1; simp only at this; omega, hG⟩
  · have hF2 : liveF (fun p => G p.1) (difS (dSys t st) (dSys t st) t.labels v) := hF
    rw [h.2.num k v hv] at hF2
    exact hno k hk hF2.2
theorem WaysAll.none {t : Lts} {st : DNet} {N : List (List Nat)} (h : WaysAll t st N) {G : Int → Prop} (hno : ∀ k : Nat, k < st.rows.length → ¬ G (k : Int)) :
    NoWord ((0 : Int), (0 : Int)) (goBoth (dSys t st) (dSys t st) t.labels) (t.labels.length - 1) (liveF fun p => G p.1) := by
  refine NSt.lookNone (deadB_step _ _ _) liveF_not h.2.nst (by rw [h.1]; exact Nat.le_refl _) fun k v hv hF => ?_
  have hF2 : liveF (fun p => G p.1) (difS (dSys t st) (dSys t st) t.labels v) := hF
  rw [h.2.num k v hv] at hF2
  have := (List.getElem?_eq_some_iff.1 hv).1
  exact hno k (by have := h.1; omega) hF2.2

end Go.Proofs.YtpoleaekcjjedaaGreatDoor

namespace Go.Proofs.YtpoleaekcjjedaaGreatDoor
open Go Go.RowKit

/-- A function that is asked of a set of states. -/
def AskSet (fid : Nat) (caps : Array Value) (t : Lts) (G : List Int → Prop) (w : World) : Prop :=
  ∀ w', Below w.heap.size w w' → ∀ (lo2 : Nat) (v : Value) (S : List Int), SliceK 1 encI lo2 w' v S → (∀ x ∈ S, 0 ≤ x ∧ x < t.states) → S.length ≤ 40 → Calls Tryz.prog fid (#[v] ++ caps) w' (Decides (G S) w')
theorem AskSet.below {fid : Nat} {caps : Array Value} {t : Lts} {G : List Int → Prop} {w w1 : World} (h : AskSet fid caps t G w) (hb : Below w.heap.size w w1) : AskSet fid caps t G w1 :=
  fun w' hb' => h w' (hb.trans (hb'.mono hb.size))

set_option maxRecDepth 100000 in
set_option maxHeartbeats 1000000 in
theorem firstAfter1_any (lo : Nat) (t : Lts) (st : DNet) (fid : Nat) (caps : Array Value) (G : List Int → Prop) (fb sb : Nat) (vr : Value) (vs : List Value) (p q : Int) (w : World) (hG : DGood t st) (h40 : ∀ r ∈ st.rows, r.length ≤ 40) (hp0 : 0 ≤ p) (hp1 : p < (st.rows.length : Int))
    (hfl : fb < w.heap.size) (hfb : w.cell? ⟨fb, 0, none⟩ = some (.func (.func fid) #[] caps)) (hsl : sb < w.heap.size) (hsb : w.cell? ⟨sb, 0, none⟩ = some vr) (hr : OwnIntss 83 2 lo w vr vs st.rows)
    (eg : ∀ args w, (callFunc fid args).run Tryz.prog w = .ok (.enter fid args) w) (hA : AskSet fid caps t G w) :
    Calls Tryz.prog 129 #[.int .i64 p, .int .i64 q, .pointer (some ⟨fb, 0, none⟩), .pointer (some ⟨sb, 0, none⟩)] w (Decides (G (setOf st p)) w) := by
  obtain ⟨n, hn⟩ : ∃ n : Nat, (n : Int) = p := ⟨p.toNat, by omega⟩
  have hnl : n < st.rows.length := by omega
  rw [← hn, setOf_at (List.getElem?_eq_getElem hnl)]
  obtain ⟨b, c, u, rfl, hbl, hcu, -, hsu⟩ := hr.rowAt hnl
  obtain ⟨R, hR⟩ : ∃ R, R = st.rows.length := ⟨_, rfl⟩
  rw [← hR] at hsb hnl
  have hin : ∀ x ∈ st.rows[n], 0 ≤ x ∧ x < t.states := (hG.rows _ (List.getElem_mem (by omega))).1
  have hln := h40 _ (List.getElem_mem (show n < st.rows.length by omega))
  obtain ⟨S, hS⟩ : ∃ S, S = st.rows[n] := ⟨_, rfl⟩
  rw [← hS] at hsu hin hln ⊢
  have HSU := Lib.hid hsu
  have HIN := Lib.hid hin
  have HA := Lib.hid hA
  have lf := later_cell hfl hfb
  have ls := later_cell hsl hsb
  have lu := later_cell hbl hcu
  clear hr hA hG hin hsu hn hS hfb hsb hcu hR hp0 hp1
  by_cases hg : G S
  · have HC : Hid (∀ g : Later w, Calls Tryz.prog fid (#[u] ++ caps) g.w fun e w' => e = .returned (.bool true) ∧ Below g.w.heap.size g.w w') := fun g => Decides.yes (HA.out g.w g.h lo u S (HSU.out.below g.h) HIN.out hln) hg
    have HG := Lib.hid hg
    clear hg
    go_enter Tryz.func129, Tryz.ntmps129
    go_wp2
    refine wp_region_later (by kernel_rfl) (by kernel_rfl) ?_
    repeat (go_big_quiet_step ((exact later_call (HC.out _))))
    refine wpQuiet_nil ?_
    intro _ hw9
    obtain ⟨nl, hw8⟩ := hw9
    subst hw8
    go_wp2
    go_ret
    exact ⟨true, rfl, ⟨fun _ => HG.out, fun _ => rfl⟩, nl.h⟩
  · have HC : Hid (∀ g : Later w, Calls Tryz.prog fid (#[u] ++ caps) g.w fun e w' => e = .returned (.bool false) ∧ Below g.w.heap.size g.w w') := fun g => Decides.no (HA.out g.w g.h lo u S (HSU.out.below g.h) HIN.out hln) hg
    have HG := Lib.hid hg
    clear hg
    go_enter Tryz.func129, Tryz.ntmps129
    go_wp2
    refine wp_region_later (by kernel_rfl) (by kernel_rfl) ?_
    repeat (go_big_quiet_step ((exact later_call (HC.out _))))
    refine wpQuiet_nil ?_
    intro _ hw9
    obtain ⟨nl, hw8⟩ := hw9
    subst hw8
    go_wp2
    go_ret
    exact ⟨false, rfl, ⟨(fun h => by cases h), fun h => absurd h HG.out⟩, nl.h⟩

/-- What firstAfter returns. -/
def RetFa (t : Lts) (G : List Int → Prop) (w : World) (e : Ending) (w' : World) : Prop :=
  Below w.heap.size w w' ∧ ((DFull t ∧ e = .returned (.tuple #[.slice none 0 0, .bool false, .bool false]))
    ∨ ∃ (st : DNet) (r : Bool) (xs : List ByteArray) (v : Value), DOk t st ∧ e = .returned (.tuple #[v, .bool r, .bool true]) ∧ FirstIs (dSys t st) (dSys t st) t.labels (fun p => G (setOf st p.1)) r xs ∧ OwnStrs w.heap.size w' v xs)

set_option maxRecDepth 100000 in
set_option maxHeartbeats 4000000 in
theorem firstAfter_any (lo : Nat) (t : Lts) (lv ev : Value) (fid : Nat) (caps : Array Value) (G : List Int → Prop) (w : World) (hv : Valid t) (hsh : Short20 t.labels) (hl : SliceK 1 encS lo w lv t.labels) (he : SliceK 3 encE lo w ev t.edges) (g : Glob w)
    (eg : ∀ args w, (callFunc fid args).run Tryz.prog w = .ok (.enter fid args) w) (hA : AskSet fid caps t G w) :
    Calls Tryz.prog 67 #[.agg #[.int .i64 t.states, .int .i64 t.initial, lv, ev], .func (.func fid) #[] caps] w (RetFa t G w) := by
  obtain ⟨p, hp⟩ : ∃ p, p = w.heap.size := ⟨_, rfl⟩
  obtain ⟨W, hW⟩ : ∃ W, W = (w.alloc (.cells #[.int .i64 t.states, .int .i64 t.initial, lv, ev] 31)).alloc (.cells #[.func (.func fid) #[] caps] 92) := ⟨_, rfl⟩
  have hB0 : Below w.heap.size w W := by rw [hW]; exact ((Below.refl _ _).alloc (Nat.le_refl _) _).alloc (by simp) _
  have hF : Blk W (p + 1) [.func (.func fid) #[] caps] 92 := by
    have := Blk.new (w.alloc (.cells #[.int .i64 t.states, .int .i64 t.initial, lv, ev] 31)) [.func (.func fid) #[] caps] 92
    rw [World.size_alloc, ← hp] at this
    rw [hW]
    exact this
  have HD := Lib.hid (determinize_any lo t lv ev W hv hsh (hl.below hB0) (he.below hB0) (g.below hB0))
  have HV := Lib.hid hv
  have HF := Lib.hid hF
  have HA := Lib.hid (hA.below hB0)
  have HB0 := Lib.hid hB0
  have HW := Lib.hid hW
  have HP := Lib.hid hp
  clear hv hsh hl he g hA hB0 hF hW hp
  go_enter Tryz.func67, Tryz.ntmps67
  go_wp2_with fail
  rw [← HW.out]
  try rw [← HP.out]
  refine Calls.mono HD.out ?_
  rintro e w1 ⟨hb1, ⟨hf, rfl⟩ | ⟨st, lv2, vr, ve, hok, rfl, ⟨⟨vs, hiv⟩, hed⟩, hlb⟩⟩
  · have HFU := Lib.hid hf
    have HB1 := Lib.hid (HB0.out.trans (hb1.mono HB0.out.size))
    clear hf hb1
    go_wp2
    go_ret3
    exact ⟨(HB1.out.alloc HB1.out.size _).alloc (by have := HB1.out.size; simp; omega) _, .inl ⟨HFU.out, rfl⟩⟩
  · have HOK := Lib.hid hok
    have HGD := Lib.hid (dok_good HV.out hok)
    obtain ⟨al, cl, rfl, -, -⟩ := owns_slice hlb
    obtain ⟨ae, ce, rfl, -, -⟩ := owns_slice hed
    obtain ⟨av, cv, rfl, -, -⟩ := owns_slice hiv.2.1
    obtain ⟨d, hd⟩ : ∃ d, d = dSys t st := ⟨_, rfl⟩
    obtain ⟨R, hR⟩ : ∃ R, R = st.rows.length := ⟨_, rfl⟩
    have hds : d.states = (R : Int) := by rw [hd, hR]; rfl
    obtain ⟨LN, hLN⟩ : ∃ LN, LN = t.labels.length := ⟨_, rfl⟩
    obtain ⟨EN, hEN⟩ : ∃ EN, EN = st.edges.length := ⟨_, rfl⟩
    obtain ⟨VN, hVN⟩ : ∃ VN, VN = vs.length := ⟨_, rfl⟩
    rw [← hLN] at hlb
    rw [← hEN] at hed
    rw [← hVN] at hiv
    rw [← hR, ← hLN, ← hEN, ← hVN]
    obtain ⟨W2, hW2⟩ : ∃ W2, W2 = (w1.alloc (.cells #[.int .i64 R, .int .i64 0, .slice al LN cl, .slice ae EN ce] 31)).alloc (.cells #[.slice av VN cv] 54) := ⟨_, rfl⟩
    obtain ⟨q, hq⟩ : ∃ q, q = w1.heap.size := ⟨_, rfl⟩
    have hb2 : Below w1.heap.size w1 W2 := by rw [hW2]; exact ((Below.refl _ _).alloc (Nat.le_refl _) _).alloc (by simp) _
    have hX : Blk W2 q [.int .i64 R, .int .i64 0, .slice al LN cl, .slice ae EN ce] 31 := by rw [hW2, hq]; exact (Blk.new w1 _ _).alloc _
    have hY : Blk W2 (q + 1) [.slice av VN cv] 54 := by
      have := Blk.new (w1.alloc (.cells #[.int .i64 R, .int .i64 0, .slice al LN cl, .slice ae EN ce] 31)) [.slice av VN cv] 54
      rw [World.size_alloc, ← hq] at this
      rw [hW2]
      exact this
    have hbW2 : Below W.heap.size W W2 := hb1.trans (hb2.mono hb1.size)
    have hF2 := HF.out.below hbW2
    have HIV2 := Lib.hid (hiv.below hb2)
    have HA2 := Lib.hid (HA.out.below hbW2)
    have LD : LtsIn W.heap.size W2 (.slice al LN cl) (.slice ae EN ce) d := by
      refine ⟨?_, ?_⟩
      · rw [hd]; exact SliceK.of_owns (e := 9) encS_len hLN (by rw [flat_encS]; exact owns_below hlb hb2)
      · rw [hd]; exact SliceK.of_owns (e := 135) encE_len hEN (owns_below hed hb2)
    have hask : Asks 129 #[.pointer (some ⟨p + 1, 0, none⟩), .pointer (some ⟨q + 1, 0, none⟩)] d d (fun z => G (setOf st z.1)) W2 := by
      intro w' hb' x y hx hy hnd ⟨L, u, hu⟩
      have hxy : x = y := by
        have h := difS_twin d L u
        rw [hu] at h
        exact h.symm
      have hx0 : 0 ≤ x := by
        refine Decidable.byContradiction fun hn => hnd ⟨?_, ?_⟩
        · show x < 0; omega
        · show y < 0; omega
      have h := firstAfter1_any W.heap.size t st fid caps G (p + 1) (q + 1) (.slice av VN cv) vs x y w' HGD.out (fun r hr => (HGD.out.rowOk HV.out r hr).len) hx0 (by rw [← hR, ← hds]; exact hx.2) (hF2.below hb').lt ((hF2.below hb').cell 0 rfl) (hY.below hb').lt ((hY.below hb').cell 0 rfl) (by rw [hVN]; have h := HIV2.out.below hb'; rw [hVN] at h; exact h) eg (HA2.out.below hb')
      exact h
    have HFI := Lib.hid (firstTrace_any W.heap.size d d (.slice al LN cl) (.slice ae EN ce) (.slice al LN cl) (.slice ae EN ce) 129 #[.pointer (some ⟨p + 1, 0, none⟩), .pointer (some ⟨q + 1, 0, none⟩)] (fun z => G (setOf st z.1)) W2 (by rw [hd]; exact dSys_valid HV.out hok) (by rw [hd]; exact dSys_valid HV.out hok) (by rw [hd]; exact dSys_single HV.out hok) (by rw [hd]; exact dSys_single HV.out hok) (by rw [hd]; rfl) (by rw [hd]; rfl) LD LD (fun args w => by kernel_rfl) hask)
    rw [hds, show d.initial = 0 from by rw [hd]; rfl] at HFI
    have HBO : Hid (bothL d d = t.labels) := by unfold Hid; rw [hd]; exact bothL_self HV.out.labels
    have HDD := Lib.hid hd
    have HBW2 := Lib.hid hbW2
    have HW2 := Lib.hid hW2
    have HQ := Lib.hid hq
    have x0 := hX.cell 0 rfl
    have x1 := hX.cell 1 rfl
    have x2 := hX.cell 2 rfl
    have x3 := hX.cell 3 rfl
    have hxl := hX.lt
    rw [hW2] at x0 x1 x2 x3 hxl
    clear hok hlb hed hiv hb1 hb2 hX hY hbW2 hF2 LD hask hds hR hLN hEN hVN hW2 hq hd HD
    go_wp2_with fail
    try rw [← HW2.out]
    try rw [← HQ.out]
    try rw [← HW2.out]
    refine Calls.mono HFI.out ?_
    rintro e w3 ⟨hb3, r, xs, v, rfl, hfi, hown⟩
    obtain ⟨a3, c3, rfl, -, -⟩ := owns_slice hown
    have HB3 := Lib.hid (HB0.out.trans ((HBW2.out.trans (hb3.mono HBW2.out.size)).mono HB0.out.size))
    have HO3 : Hid (OwnStrs w.heap.size w3 (.slice a3 xs.length c3) xs) := own_lower hown (Nat.le_trans HB0.out.size HBW2.out.size)
    have HR3 : Hid (FirstIs (dSys t st) (dSys t st) t.labels (fun z => G (setOf st z.1)) r xs) := by
      have h := hfi
      rw [HBO.out, HDD.out] at h
      exact h
    clear hb3 hfi hown x0 x1 x2 x3 hxl HFI
    go_wp2
    go_ret3
    exact ⟨HB3.out, .inr ⟨st, r, xs, _, HOK.out, rfl, HR3.out, HO3.out⟩⟩

end Go.Proofs.YtpoleaekcjjedaaGreatDoor

namespace Go.Proofs.YtpoleaekcjjedaaGreatDoor
open Go Go.RowKit

/-- A set that internal edges never have to leave. -/
def Endless (t : Lts) (S : Int → Prop) : Prop := ∀ y, S y → ∃ e ∈ t.edges, e.src = y ∧ e.lab = 0 ∧ S e.dst
def Diverges (t : Lts) (x : Int) : Prop := ∃ S, Endless t S ∧ S x
/-- An internal edge from k to a place that is marked. -/
def goesD (t : Lts) (c : List Bool) (k : Int) (j : Nat) : Bool := (t.edges.take j).any fun e => (e.src == k) && (e.lab == 0) && c.getD e.dst.toNat false
theorem goesD_zero (t : Lts) (c : List Bool) (k : Int) : goesD t c k 0 = false := rfl
theorem goesD_succ {t : Lts} {c : List Bool} {k : Int} {j : Nat} (h : j < t.edges.length) : goesD t c k (j + 1) = (goesD t c k j || ((t.edges[j].src == k) && (t.edges[j].lab == 0) && c.getD t.edges[j].dst.toNat false)) := any_take _ _ _ h
/-- What is left holds all endless sets. -/
structure DivOk (t : Lts) (c : List Bool) : Prop where
  len : (c.length : Int) = t.states
  all : ∀ S, Endless t S → ∀ x, S x → 0 ≤ x → x < t.states → c.getD x.toNat false = true
theorem DivOk.start (t : Lts) (h : 1 ≤ t.states) : DivOk t (List.replicate t.states.toNat true) :=
  ⟨by rw [List.length_replicate]; omega, fun S _ x _ h0 h1 => by rw [List.getD_eq_getElem?_getD, List.getElem?_replicate, if_pos (by omega)]; rfl⟩
theorem edge_in {t : Lts} (hv : Valid t) {e : Edge} (he : e ∈ t.edges) : EdgeOk t e := by
  obtain ⟨i, hi, rfl⟩ := List.mem_iff_getElem.1 he
  exact hv.edge i hi
theorem DivOk.set {t : Lts} (hv : Valid t) {c : List Bool} (h : DivOk t c) {k : Nat} (hg : goesD t c k t.edges.length = false) : DivOk t (c.set k false) := by
  refine ⟨by rw [List.length_set]; exact h.len, fun S hS x hx h0 h1 => ?_⟩
  by_cases e : x.toNat = k
  · exfalso
    obtain ⟨f, hf, hs, hl, hd⟩ := hS x hx
    have hok := edge_in hv hf
    have h2 := h.all S hS f.dst hd hok.d0 hok.d1
    unfold goesD at hg
    rw [List.take_length, List.any_eq_false] at hg
    refine hg f hf ?_
    rw [h2, hl, hs, ← e]
    simp
    omega
  · rw [List.getD_eq_getElem?_getD, List.getElem?_set_ne (fun h => e h.symm), ← List.getD_eq_getElem?_getD]
    exact h.all S hS x hx h0 h1
theorem DivOk.done {t : Lts} (hv : Valid t) {c : List Bool} (h : DivOk t c) (hr : ∀ k : Nat, k < c.length → c.getD k false = true → goesD t c k t.edges.length = true) (x : Int) (h0 : 0 ≤ x) (h1 : x < t.states) : c.getD x.toNat false = true ↔ Diverges t x := by
  constructor
  · intro hc
    refine ⟨fun y => 0 ≤ y ∧ y < t.states ∧ c.getD y.toNat false = true, fun y hy => ?_, h0, h1, hc⟩
    have h2 := hr y.toNat (by have := h.len; omega) hy.2.2
    unfold goesD at h2
    rw [List.take_length, List.any_eq_true] at h2
    obtain ⟨e, he, h3⟩ := h2
    have hok := edge_in hv he
    simp only [Bool.and_eq_true, beq_iff_eq] at h3
    exact ⟨e, he, by have := h3.1.1; omega, h3.1.2, hok.d0, hok.d1, h3.2⟩
  · rintro ⟨S, hS, hx⟩
    exact h.all S hS x hx h0 h1
theorem goesD_le {t : Lts} {c c' : List Bool} (h : ∀ i, c'.getD i false = true → c.getD i false = true) {k : Int} {j : Nat} (hg : goesD t c' k j = true) : goesD t c k j = true := by
  unfold goesD at *
  rw [List.any_eq_true] at *
  obtain ⟨e, he, h2⟩ := hg
  refine ⟨e, he, ?_⟩
  simp only [Bool.and_eq_true] at h2 ⊢
  exact ⟨h2.1, h _ h2.2⟩

/-- A set with a divergent state. -/
def divIn (t : Lts) (st : DNet) (q : Int) : Prop := ∃ x ∈ setOf st q, Diverges t x
/-- The trace, the code. -/
def DivIs (t : Lts) (xs : List ByteArray) (code : Int) : Prop :=
  (¬ Valid t ∧ xs = [] ∧ code = 1) ∨ (Valid t ∧ DFull t ∧ xs = [] ∧ code = 5)
    ∨ (Valid t ∧ ∃ st, DOk t st ∧ ((NoWord ((0 : Int), (0 : Int)) (goBoth (dSys t st) (dSys t st) t.labels) (t.labels.length - 1) (liveF fun p => divIn t st p.1) ∧ xs = [] ∧ code = 3)
      ∨ ∃ u, Least ((0 : Int), (0 : Int)) (goBoth (dSys t st) (dSys t st) t.labels) (t.labels.length - 1) (liveF fun p => divIn t st p.1) u ∧ xs = txtsOf t.labels u ∧ code = 0))
theorem DivIs.unique {t : Lts} {xs xs' : List ByteArray} {code code' : Int} (h : DivIs t xs code) (k : DivIs t xs' code') : xs = xs' ∧ code = code' := by
  rcases h with ⟨h1, h2, h3⟩ | ⟨h1, h2, h3, h4⟩ | ⟨h1, st, h2, h3⟩ <;> rcases k with ⟨k1, k2, k3⟩ | ⟨k1, k2, k3, k4⟩ | ⟨k1, st', k2, k3⟩ <;>
    first
    | exact absurd k1 h1
    | exact absurd h1 k1
    | exact ⟨h2.trans k2.symm, h3.trans k3.symm⟩
    | exact ⟨h3.trans k3.symm, h4.trans k4.symm⟩
    | exact absurd k2 h2.not_full
    | exact absurd h2 k2.not_full
    | skip
  have e := h2.1.unique k2.1
  subst e
  rcases h3 with ⟨a1, a2, a3⟩ | ⟨u, a1, a2, a3⟩ <;> rcases k3 with ⟨b1, b2, b3⟩ | ⟨u', b1, b2, b3⟩
  · exact ⟨a2.trans b2.symm, a3.trans b3.symm⟩
  · exact (b1.some a1).elim
  · exact (a1.some b1).elim
  · have := a1.unique b1
    subst this
    exact ⟨a2.trans b2.symm, a3.trans b3.symm⟩

end Go.Proofs.YtpoleaekcjjedaaGreatDoor

namespace Go.Proofs.YtpoleaekcjjedaaGreatDoor
open Go Go.RowKit

def idxE (P : Edge → Bool) (xs : List Edge) : Int := if xs.findIdx P < xs.length then (xs.findIdx P : Nat) else -1
theorem idxE_neg {P : Edge → Bool} {xs : List Edge} : idxE P xs = -1 ↔ ∀ x ∈ xs, P x = false := by
  unfold idxE
  by_cases h : xs.findIdx P < xs.length
  · rw [if_pos h]
    refine ⟨fun e => by omega, fun h2 => ?_⟩
    obtain ⟨x, hx, hp⟩ := List.findIdx_lt_length.1 h
    rw [h2 x hx] at hp
    cases hp
  · rw [if_neg h]
    refine ⟨fun _ x hx => ?_, fun _ => rfl⟩
    cases hp : P x
    · rfl
    · exact absurd (List.findIdx_lt_length.2 ⟨x, hx, hp⟩) h
theorem idxE_any {P : Edge → Bool} {xs : List Edge} : decide (0 ≤ idxE P xs) = xs.any P := by
  unfold idxE
  by_cases h : xs.findIdx P < xs.length
  · rw [if_pos h]
    obtain ⟨x, hx, hp⟩ := List.findIdx_lt_length.1 h
    rw [List.any_eq_true.2 ⟨x, hx, hp⟩]
    simp
  · rw [if_neg h]
    have : xs.any P = false := by
      rw [List.any_eq_false]
      intro x hx hp
      exact h (List.findIdx_lt_length.2 ⟨x, hx, hp⟩)
    rw [this]
    rfl
/-- A function of one element that answers P, and turns nothing that was there. -/
def AskE (fid : Nat) (caps : Array Value) (P : Edge → Bool) (xs : List Edge) (B : Nat) (w : World) : Prop :=
  ∀ w', Below B w w' → ∀ x ∈ xs, Calls Tryz.prog fid (#[.agg #[.int .i64 x.src, .int .i64 x.lab, .int .i64 x.dst]] ++ caps) w' fun e w'' => e = .returned (.bool (P x)) ∧ Below w'.heap.size w' w''

set_option maxRecDepth 100000 in
set_option maxHeartbeats 1000000 in
theorem IndexFuncE (lo : Nat) (v : Value) (xs : List Edge) (fid : Nat) (caps : Array Value) (P : Edge → Bool) (w : World) (hv : SliceK 3 encE lo w v xs) (eg : ∀ args w, (callFunc fid args).run Tryz.prog w = .ok (.enter fid args) w) (hP : AskE fid caps P xs w.heap.size w) :
    Calls Tryz.prog 201 #[v, .func (.func fid) #[] caps] w fun e w' => e = .returned (.int .i64 (idxE P xs)) ∧ Below w.heap.size w w' := by
  obtain ⟨a, c, rfl, hcn, hcc, hrow⟩ := hv
  have HR := Lib.hid hrow
  have HP := Lib.hid hP
  clear hP hrow
  go_enter Tryz.func201, Tryz.ntmps201
  go_wp2_with fail
  go_loopw [8] (fun i wr => ∃ k : Nat, k ≤ xs.length ∧ i = .int .i64 k ∧ Below w.heap.size w wr ∧ ∀ j (h : j < xs.length), j < k → P xs[j] = false) (fun i _ => xs.length - (intOf i).toNat)
  case atStart => exact ⟨0, Nat.zero_le _, rfl, Below.refl _ _, fun _ _ h => by omega⟩
  case round =>
    obtain ⟨k, hk, rfl, hbl, ha⟩ := hrel
    have HA := Lib.hid ha
    have HBL := Lib.hid hbl
    clear ha
    by_cases hlt : k < xs.length
    · obtain ⟨b1, o1, rfl, -, hbs, c1, c2, c3⟩ := (HR.out.below hbl).edge hlt
      clear hbl
      obtain ⟨x, hx⟩ : ∃ x, x = xs[k] := ⟨_, rfl⟩
      rw [← hx] at c1 c2 c3
      have HX := Lib.hid hx
      have HC := Lib.hid (HP.out wr HBL.out x (by rw [hx]; exact List.getElem_mem _))
      obtain ⟨b, hb⟩ : ∃ b, b = P x := ⟨_, rfl⟩
      rw [← hb] at HC
      have HB := Lib.hid hb
      clear hb hx
      go_wp2_with fail
      refine Calls.mono HC.out ?_
      rintro e w1 ⟨rfl, hb1⟩
      have HB1 := Lib.hid (HBL.out.trans (hb1.mono HBL.out.size))
      clear hb1 c1 c2 c3
      cases b
      · go_wp2_with fail
        go_roundw
        case rel => exact ⟨k + 1, by omega, by go_num, HB1.out, fun j h hj => by
          by_cases e : j = k
          · subst e; rw [← HX.out]; exact HB.out.symm
          · exact HA.out j h (by omega)⟩
        case measure => simp [intOf]; omega
      · have HI : Hid (idxE P xs = (k : Int)) := by
          unfold Hid idxE
          have h1 : xs.findIdx P = k := by
            rw [List.findIdx_eq hlt]
            exact ⟨by rw [← HX.out]; exact HB.out.symm, fun j hj => HA.out j (by omega) hj⟩
          rw [h1, if_pos hlt]
        go_wp2_with fail
        go_ret
        exact ⟨ret_int HI.out.symm, HB1.out⟩
    · clear hbl
      have HI : Hid (idxE P xs = -1) := by
        unfold Hid
        rw [idxE_neg]
        intro x hx
        obtain ⟨j, hj, rfl⟩ := List.mem_iff_getElem.1 hx
        exact HA.out j hj (by omega)
      go_wp2_with fail
      go_ret
      exact ⟨ret_int HI.out.symm, HBL.out⟩

theorem ContainsFuncE (lo : Nat) (v : Value) (xs : List Edge) (fid : Nat) (caps : Array Value) (P : Edge → Bool) (w : World) (hv : SliceK 3 encE lo w v xs) (eg : ∀ args w, (callFunc fid args).run Tryz.prog w = .ok (.enter fid args) w) (hP : AskE fid caps P xs w.heap.size w) :
    Calls Tryz.prog 126 #[v, .func (.func fid) #[] caps] w fun e w' => e = .returned (.bool (xs.any P)) ∧ Below w.heap.size w w' := by
  have HC := Lib.hid (IndexFuncE lo v xs fid caps P w hv eg hP)
  clear hP
  go_enter Tryz.func126, Tryz.ntmps126
  go_wp2_with fail
  refine Calls.mono HC.out ?_
  rintro e w' ⟨rfl, hb⟩
  have HB := Lib.hid hb
  clear hb
  go_wp2_with fail
  go_ret
  exact ⟨ret_bool idxE_any, HB.out⟩

end Go.Proofs.YtpoleaekcjjedaaGreatDoor

namespace Go.Proofs.YtpoleaekcjjedaaGreatDoor
open Go Go.RowKit

set_option maxRecDepth 100000 in
set_option maxHeartbeats 2000000 in
theorem out_any (lo : Nat) (t : Lts) (lv ev : Value) (s : Int) (w : World) (hsmall : t.edges.length ≤ 1073741824) (he : SliceK 3 encE lo w ev t.edges) :
    Calls Tryz.prog 127 #[.agg #[.int .i64 t.states, .int .i64 t.initial, lv, ev], .int .i64 s] w (MadeOut t s w) := by
  obtain ⟨ae, ce, rfl, hen, hec, hrow⟩ := he
  obtain ⟨i0, hi, hz0, hz1, hz2⟩ := info_parts info_edge2
  have HB0 : Hid (Below w.heap.size w (w.alloc (.cells #[.int .i64 t.states, .int .i64 t.initial, lv, .slice ae t.edges.length ce] 31))) := (Below.refl _ _).alloc (Nat.le_refl _) _
  go_enter Tryz.func127, Tryz.ntmps127
  go_wp2_with fail
  go_loopw [5, 11] (fun v i wr => ∃ k : Nat, k ≤ t.edges.length ∧ i = .int .i64 k ∧ Below w.heap.size w wr ∧ wr.ownsRow w.heap.size 135 3 v ((t.edges.take k).filter fun e => e.src == s).length (((t.edges.take k).filter fun e => e.src == s).flatMap encE)) (fun _ i _ => t.edges.length - (intOf i).toNat)
  case atStart => exact ⟨0, Nat.zero_le _, rfl, HB0.out, World.ownsRow_nil _ _ _ _⟩
  case round =>
    obtain ⟨k, hk, rfl, hbl, ho⟩ := hrel
    have HBL := Lib.hid hbl
    have HO := Lib.hid ho
    have hsz := hbl.size
    have hfl : ((t.edges.take k).filter fun e => e.src == s).length ≤ k := Nat.le_trans (List.length_filter_le _ _) (List.length_take_le _ _)
    clear hbl ho
    by_cases hlt : k < t.edges.length
    · obtain ⟨be, oe, rfl, -, hbe, e1, e2, e3⟩ := (hrow.below HBL.out).edge hlt
      clear hrow
      have HBA : Hid (Below w.heap.size w (wr.alloc (.cells #[.int .i64 t.edges[k].src, .int .i64 t.edges[k].lab, .int .i64 t.edges[k].dst] 135))) := HBL.out.alloc hsz _
      have HOA : Hid ((wr.alloc (.cells #[.int .i64 t.edges[k].src, .int .i64 t.edges[k].lab, .int .i64 t.edges[k].dst] 135)).ownsRow w.heap.size 135 3 u5 ((t.edges.take k).filter fun e => e.src == s).length (((t.edges.take k).filter fun e => e.src == s).flatMap encE)) := HO.out.alloc _
      cases g : (t.edges[k].src == s)
      · have HL : Hid ((t.edges.take (k + 1)).filter (fun e => e.src == s) = (t.edges.take k).filter fun e => e.src == s) := by
          unfold Hid
          rw [List.take_succ_eq_append_getElem hlt, List.filter_append]
          simp [g]
        go_wp2_with fail
        go_roundw
        case rel => exact ⟨k + 1, by omega, by go_num, HBA.out, by rw [HL.out]; exact HOA.out⟩
        case measure => simp [intOf]; omega
      · have HL : Hid ((t.edges.take (k + 1)).filter (fun e => e.src == s) = ((t.edges.take k).filter fun e => e.src == s) ++ [t.edges[k]]) := by
          unfold Hid
          rw [List.take_succ_eq_append_getElem hlt, List.filter_append]
          simp [g]
        generalize hfs : (t.edges.take k).filter (fun e => e.src == s) = fs at *
        have HFS := Lib.hid hfs
        clear hfs
        go_wp2_with (at_builtin; refine wpList_append_own _ rfl _ _ 29 rfl w.heap.size 135 i0 (.agg #[.int .i64 0, .int .i64 0, .int .i64 0]) 3 24 Tryz.underlying29 hi hz0 hz1 hz2 rfl (by decide) _ _ _ rfl (HOA.out.alloc _) ⟨wr.heap.size + 1, 0, none⟩ 1 1 (encE t.edges[k]) rfl rfl ?c1 ?c2 ?c3 ?c4 ?c5 ?_)
        case c1 => have := three_new (wr.alloc (.cells #[.int .i64 t.edges[k].src, .int .i64 t.edges[k].lab, .int .i64 t.edges[k].dst] 135)) t.edges[k] 135; simpa using this
        case c2 => intro u hu; simp [encE] at hu; rcases hu with rfl | rfl | rfl <;> rfl
        case c3 => simp [maxLen]; omega
        case c4 => omega
        case c5 => simp; omega
        intro v' w1 ho1 hg1 _
        have HO2 : Hid (w1.ownsRow w.heap.size 135 3 v' (fs ++ [t.edges[k]]).length ((fs ++ [t.edges[k]]).flatMap encE)) := by
          unfold Hid
          rw [List.length_append, List.flatMap_append, List.flatMap_singleton]
          exact ho1
        have HB2 : Hid (Below w.heap.size w w1) := (HBA.out.alloc (by simp; omega) _).grown hg1 (by simp; omega) (fun b e => (HO.out.lt b e).1)
        clear ho1 hg1
        go_wp2_with fail
        go_roundw
        case rel => exact ⟨k + 1, by omega, by go_num, HB2.out, by rw [HL.out]; exact HO2.out⟩
        case measure => simp [intOf]; omega
    · clear hrow
      go_wp2_with fail
      go_ret
      obtain rfl : k = t.edges.length := by omega
      exact ⟨_, rfl, HBL.out, by unfold outOf; have := HO.out; rw [List.take_length] at this; exact this⟩

end Go.Proofs.YtpoleaekcjjedaaGreatDoor

namespace Go.Proofs.YtpoleaekcjjedaaGreatDoor
open Go Go.RowKit

theorem info_boolR : (Tryz.prog.info? 4).map (fun i => (i.zero, i.size, i.bytes)) = some (some (.bool false), 1, 1) := by kernel_rfl

theorem Mul_one (P : Nat) (w : World) (hP : P ≤ 1073741824) : Calls Tryz.prog 200 #[.int .u64 1, .int .u64 P] w fun e w' => e = .returned (.tuple #[.int .u64 0, .int .u64 P]) ∧ w = w' := by
  have := Tryz.bits_Mul 1 P (by decide) (by omega) w
  refine Calls.mono this ?_
  rintro e w' ⟨rfl, rfl⟩
  refine ⟨?_, rfl⟩
  rw [Nat.one_mul, Nat.div_eq_of_lt (by omega), Nat.mod_eq_of_lt (by omega)]
  rfl

theorem size_bool : (Tryz.prog.info? 4).map (·.size) = some 1 := by kernel_rfl

def halfB (n P : Nat) : List Value := List.replicate n (.bool true) ++ List.replicate (P - n) (.bool false)
theorem halfB_len {n P : Nat} (h : n ≤ P) : (halfB n P).length = P := by unfold halfB; simp; omega
theorem halfB_splice {n P m : Nat} (h : n + m ≤ P) : splice (halfB n P) n (List.replicate m (.bool true)) = halfB (n + m) P := by
  unfold splice halfB
  rw [List.take_append_of_le_length (by simp), List.take_of_length_le (by simp), List.drop_append]
  simp only [List.length_replicate, List.drop_replicate]
  rw [show n - (n + m) = 0 from by omega, List.replicate_zero, List.nil_append, ← List.append_assoc, List.replicate_append_replicate, show P - n - (n + m - n) = P - (n + m) from by omega]
theorem halfB_get {n P j : Nat} (h : j < n) : (halfB n P)[j]? = some (.bool true) := by
  unfold halfB
  rw [List.getElem?_append_left (by simpa using h), List.getElem?_replicate, if_pos h]

set_option maxRecDepth 100000 in
set_option maxHeartbeats 400000 in
theorem Repeat_any (P xb : Nat) (w : World) (h1 : 1 ≤ P) (h2 : P ≤ 40) (hx : w.cell? ⟨xb, 0, none⟩ = some (.bool true)) :
    Calls Tryz.prog 125 #[.slice (some ⟨xb, 0, none⟩) 1 1, .int .i64 P] w fun e w' => e = .returned (.slice (some ⟨w.heap.size, 0, none⟩) P P) ∧ Below w.heap.size w w' ∧ Blk w' w.heap.size (List.replicate P (.bool true)) 4 := by
  obtain ⟨i0, hi, hz0, hz1, hz2⟩ := info_parts info_boolR
  have hxl := World.block_lt_of_cell? _ _ hx
  go_enter Tryz.func125, Tryz.ntmps125
  go_wp2_with fail
  refine (Mul_one P _ (by omega)).mono ?_
  rintro e w' ⟨rfl, rfl⟩
  go_wp2_with (at_make; refine wpList_make_full _ rfl _ _ 81 rfl w.heap.size 4 i0 _ 1 Tryz.underlying81 hi hz0 hz1 .i64 .i64 _ _ P rfl rfl rfl rfl ?_ ?_ ?_ ?_)
  · rw [hz2]; omega
  · simp [maxLen]; omega
  · exact Nat.le_refl _
  · intro w1 ho hg
    rw [toList_madeCells_one] at ho
    have hb1 : Below w.heap.size w w1 := (Below.refl _ w).grown hg (Nat.le_refl _) (fun _ h => by cases h)
    have hB : Blk w1 w.heap.size (halfB 0 P) 4 := by
      obtain ⟨h0, ⟨e9, -⟩ | ⟨g9, cap, cur, e9, -, hh, hc, hm, hs, ht⟩⟩ := ho
      · cases e9
      · simp only [Value.slice.injEq, Option.some.injEq, Addr.mk.injEq, and_true, true_and] at e9
        obtain ⟨e9, rfl⟩ := e9
        subst e9
        unfold Blk halfB
        rw [hh]
        rw [List.take_of_length_le (by simp; omega)] at ht
        simp only [List.replicate_zero, List.nil_append, Nat.sub_zero]
        rw [← ht]
    have hx1 := keeps hb1 hxl hx
    clear hi hz0 hz1 hz2 i0 ho hg
    have HW1 := Lib.hid hb1
    have hB' : w1.heap[w.heap.size]? = some (.cells (halfB 0 P).toArray 4 (0, 0)) := hB
    clear hb1 hx
    go_wp2_with (with_reducible show wpList _ _ _ (⟨some 33, _, _, _, _, _⟩ :: _) _ _; go_loud (refine wpList_copy_splice rfl (.tmp 31) (.tmp 32) 81 81 rfl 4 Tryz.underlying81 size_bool _ _ _ _ _ _ rfl rfl w.heap.size 0 (halfB 0 P) 4 hB' [.bool true] ?c1 ?c2 ?c3 ?c4 w.heap.size w HW1.out (Nat.le_refl _) ?_))
    case c1 => show 1 = Nat.min 1 P; exact (Nat.min_eq_left h1).symm
    case c2 =>
      intro j v hj
      match j, hj with
      | 0, hj => simp at hj; subst hj; exact hx1
      | j + 1, hj => simp at hj
    case c3 => rw [halfB_len (by omega)]; simpa using h1
    case c4 => intro v hv; simp at hv; subst hv; rfl
    intro w2 HG2 hb2
    have hB2 : Blk w2 w.heap.size (halfB 1 P) 4 := by
      have := HG2.out
      rw [show ([.bool true] : List Value) = List.replicate 1 (.bool true) from rfl, halfB_splice (by omega)] at this
      rw [Nat.zero_add] at this
      exact this
    have HB2 := Lib.hid hb2
    have HBB2 := Lib.hid hB2
    clear HG2 hb2 hB hB' hB2 HW1 hx1
    go_wp2_with fail
    go_loopw [8] (fun i wr => ∃ n : Nat, 1 ≤ n ∧ n ≤ P ∧ i = .int .i64 n ∧ Below w.heap.size w wr ∧ Blk wr w.heap.size (halfB n P) 4) (fun i _ => P - (intOf i).toNat)
    case atStart => exact ⟨1, Nat.le_refl _, h1, rfl, HB2.out, HBB2.out⟩
    case round =>
      obtain ⟨n, hn1, hn, rfl, hb, hB⟩ := hrel
      have HB := Lib.hid hb
      clear HB2 HBB2 hb
      by_cases hlt : n < P
      · have hlt' : (n : Int) < (P : Int) := by omega
        have hni : (n : Int) ≤ (P : Int) := by omega
        have hn0 : (0 : Int) ≤ (n : Int) := by omega
        obtain ⟨m, hm⟩ : ∃ m, m = min n (P - n) := ⟨_, rfl⟩
        have hmP : n + m ≤ P := by omega
        have hmn : m ≤ n := by omega
        have hm1 : 1 ≤ m := by omega
        have hB' : wr.drew.heap[w.heap.size]? = some (.cells (halfB n P).toArray 4 (0, 0)) := hB.below ((Below.refl _ _).drew)
        have hPn : ¬ P = n := by omega
        have HBD : Below w.heap.size w wr.drew := HB.out.drew
        have hrun := run_copy_row (P := Tryz.prog) wr.drew 81 81 3 4 w.heap.size n (P - n) (P - n) ⟨w.heap.size, 0, none⟩ n P (halfB n P).toArray 4 (List.replicate m (.bool true)) Tryz.underlying81 size_bool hB'
          (by rw [List.length_replicate]; exact hm) (fun j v hj => by
            rw [List.getElem?_replicate] at hj
            split at hj
            · next hlt2 =>
              cases hj
              have : Blk wr.drew w.heap.size (halfB n P) 4 := hB'
              have := this.cell j (halfB_get (P := P) (show j < n by omega))
              rw [Lib.add_plain, Nat.zero_add]
              exact this
            · cases hj) (by rw [List.length_replicate]; simp [halfB_len hn]; exact hmP) (fun v hv => by rw [List.eq_of_mem_replicate hv]; rfl)
        obtain ⟨W3, hW3⟩ : ∃ W3, W3 = wr.drew.setRow w.heap.size ((halfB n P).toArray.toList.take n ++ List.replicate m (Value.bool true) ++ (halfB n P).toArray.toList.drop (n + (List.replicate m (Value.bool true)).length)).toArray := ⟨_, rfl⟩
        rw [← hW3, List.length_replicate] at hrun
        have HB3 : Hid (Below w.heap.size w W3) := by unfold Hid; rw [hW3]; exact below_setRow HBD (Nat.le_refl _) _
        have HBK3 : Hid (Blk W3 w.heap.size (halfB (n + m) P) 4) := by
          unfold Hid
          rw [hW3, ← halfB_splice hmP]
          have := setRow_heap wr.drew w.heap.size _ ((halfB n P).toArray.toList.take n ++ List.replicate m (Value.bool true) ++ (halfB n P).toArray.toList.drop (n + (List.replicate m (Value.bool true)).length)).toArray 4 _ hB'
          unfold Blk
          simpa [splice] using this
        clear hW3 hB hB' HBD hm
        go_wp2_with fail
        go_region
        clear hrun
        go_wp2_with fail
        go_roundw
        case rel => exact ⟨n + m, by omega, hmP, by go_num, HB3.out, HBK3.out⟩
        case measure => simp [intOf]; omega
      · obtain rfl : n = P := by omega
        go_wp2_with fail
        go_ret
        refine ⟨rfl, HB.out, ?_⟩
        unfold halfB at hB
        rw [Nat.sub_self, List.replicate_zero, List.append_nil] at hB
        exact hB

end Go.Proofs.YtpoleaekcjjedaaGreatDoor
