/-
  The rows and the edges of the deterministic system found: each edge leads from a row to the set behind it. Plain.
  A search that meets states and looks at them later, in the order met. Plain; no program in sight.
  The states of the deterministic system in the order found, and the first word that leads to each. Plain.
  The implementation's firstAfter: the first trace after which the states are as asked.
  What states offer, stable states, and where one system does not refine another one. Plain.
  The states behind a trace, and their place among the sets of the deterministic system; the first label that can and cannot follow. Plain.
  What a state offers, as the reference lists it; lists of texts that grow.
-/
import Derived.Test.YtpoleaekcjjedaaGreatDoorD10
import Derived.Test.YtpoleaekcjjedaaGreatDoorD3
import Derived.Test.YtpoleaekcjjedaaGreatDoorD13
import Derived.Test.YtpoleaekcjjedaaGreatDoorD15
import Derived.Test.YtpoleaekcjjedaaGreatDoorD19
import Derived.Test.YtpoleaekcjjedaaGreatDoorD17
import Derived.Test.YtpoleaekcjjedaaGreatDoorD8
import Derived.Test.YtpoleaekcjjedaaGreatDoorD11
namespace Go.Proofs.YtpoleaekcjjedaaGreatDoor
open Go Go.RowKit

/-- Each edge leads to the set behind it. -/
def EOk (t : Lts) (st : DNet) : Prop := ∀ e ∈ st.edges, ∃ cur, st.rows[e.src.toNat]? = some cur ∧ nextS t cur e.lab ≠ [] ∧ st.rows[e.dst.toNat]? = some (nextS t cur e.lab)
theorem dadd_get (rows : List (List Int)) (r : List Int) : (dadd rows r)[dplace rows r]? = some r := by
  unfold dadd
  have h2 := dplace_le rows r
  split
  · next h => rw [List.getElem?_eq_getElem h, dplace_get h]
  · next h =>
    have h3 : dplace rows r = rows.length := by omega
    rw [h3, List.getElem?_concat_length]
theorem dadd_old {rows : List (List Int)} (r : List Int) {i : Nat} {cur : List Int} (h : rows[i]? = some cur) : (dadd rows r)[i]? = some cur := by
  unfold dadd
  split
  · exact h
  · rw [List.getElem?_append_left (List.getElem?_eq_some_iff.1 h).1]; exact h
theorem EOk.step {t : Lts} {st : DNet} {i : Nat} {cur : List Int} (h : EOk t st) (hc : st.rows[i]? = some cur) (k : Nat) : EOk t (dstep t i cur st k) ∧ (dstep t i cur st k).rows[i]? = some cur := by
  unfold dstep
  split
  · exact ⟨h, hc⟩
  · next hne =>
    refine ⟨fun e he => ?_, dadd_old _ hc⟩
    rcases List.mem_append.1 he with he | he
    · obtain ⟨c, h1, h2, h3⟩ := h e he
      exact ⟨c, dadd_old _ h1, h2, dadd_old _ h3⟩
    · rw [List.mem_singleton] at he
      subst he
      refine ⟨cur, dadd_old _ (by rw [Int.toNat_natCast]; exact hc), hne, ?_⟩
      rw [Int.toNat_natCast]
      exact dadd_get _ _
theorem EOk.mid {t : Lts} {st : DNet} {i : Nat} {cur : List Int} (h : EOk t st) (hc : st.rows[i]? = some cur) : ∀ j, EOk t (dmid t i cur st j) ∧ (dmid t i cur st j).rows[i]? = some cur
  | 0 => ⟨h, hc⟩
  | j + 1 => by rw [dmid_succ]; exact (EOk.mid h hc j).1.step (EOk.mid h hc j).2 j
theorem EOk.at (t : Lts) : ∀ n, EOk t (dAt t n)
  | 0 => fun e he => by simp [dAt] at he
  | n + 1 => by
    rw [dAt]
    unfold drow
    split
    · exact EOk.at t n
    · next cur hc => exact ((EOk.at t n).mid hc _).1
theorem dok_eok {t : Lts} {st : DNet} (h : DOk t st) : EOk t st := by
  obtain ⟨⟨n, -, rfl, -⟩, -⟩ := h
  exact EOk.at t n
/-- A row, when its turn came. -/
theorem DOk.row {t : Lts} {st : DNet} (h : DOk t st) {i : Nat} (hi : i < st.rows.length) : ∃ cur, (dAt t i).rows[i]? = some cur ∧ st.rows[i]? = some cur ∧ (∀ j, j ≤ t.labels.length - 1 → DLe (dmid t i cur (dAt t i) j) st) ∧ dmid t i cur (dAt t i) (t.labels.length - 1) = dAt t (i + 1) := by
  obtain ⟨⟨m, hm, em, lm⟩, -⟩ := h
  have h1 := hm i (by omega)
  have hcur : (dAt t i).rows[i]? = some (dAt t i).rows[i] := List.getElem?_eq_getElem h1
  have h2 := dAt_le t i (m - i)
  rw [show i + (m - i) = m from by omega, em] at h2
  refine ⟨_, hcur, ?_, fun j hj => ?_, (dAt_succ hcur).symm⟩
  · obtain ⟨r, hr⟩ := h2.rows
    rw [hr, List.getElem?_append_left h1]
    exact hcur
  · have h3 := dmid_le t i (dAt t i).rows[i] (dAt t i) j (t.labels.length - 1 - j)
    rw [show j + (t.labels.length - 1 - j) = t.labels.length - 1 from by omega, ← dAt_succ hcur] at h3
    have h4 := dAt_le t (i + 1) (m - (i + 1))
    rw [show i + 1 + (m - (i + 1)) = m from by omega, em] at h4
    exact h3.trans h4
/-- An edge is found by its state and label. -/
theorem go_edge {t : Lts} {st : DNet} (hv : Valid t) (h : DOk t st) {e : Edge} (he : e ∈ st.edges) {k : Nat} (hk : k + 1 < t.labels.length) (hl : e.lab = (k : Int) + 1) : goTo (dSys t st) e.src (labK t.labels k) = e.dst := by
  have hG := dok_good hv h
  have hs0 := (hG.edges e he).1.1
  have hlk : labK t.labels k = t.labels[k + 1] := by unfold labK; rw [List.getD_eq_getElem?_getD, List.getElem?_eq_getElem hk]; rfl
  unfold goTo
  rw [if_neg (by omega)]
  have hfind : st.edges.find? (hitB (dSys t st) e.src (labK t.labels k)) = some e := by
    obtain ⟨j, hj, rfl⟩ := List.mem_iff_getElem.1 he
    refine find_at hj (fun i hi hij => ?_) ?_
    · unfold hitB
      rw [Bool.and_eq_false_iff]
      by_cases hs : st.edges[i].src = st.edges[j].src
      · right
        rw [beq_eq_false_iff_ne]
        intro hb
        obtain ⟨h1, h2, h3⟩ := lab_get hG (List.getElem_mem hi)
        have h4 : (labAt (dSys t st) st.edges[i]) = t.labels[st.edges[i].lab.toNat] := h2
        rw [h4, hlk] at hb
        have := labels_inj hv.labels _ _ h1 hk hb
        have hup := List.pairwise_iff_getElem.1 (dok_up h) i j hi hj hij
        omega
      · left
        rw [beq_eq_false_iff_ne]
        exact hs
    · unfold hitB
      obtain ⟨h1, h2, h3⟩ := lab_get hG he
      have h4 : (labAt (dSys t st) st.edges[j]) = t.labels[st.edges[j].lab.toNat] := h2
      have h5 : st.edges[j].lab.toNat = k + 1 := by omega
      rw [h4, hlk]
      simp [h5]
  show ((st.edges.find? _).map Edge.dst).getD (-1) = e.dst
  rw [hfind]
  rfl
theorem go_none {t : Lts} {st : DNet} (hv : Valid t) (h : DOk t st) {q : Int} {k : Nat} (hk : k + 1 < t.labels.length) (hn : ∀ e ∈ st.edges, e.src = q → e.lab ≠ (k : Int) + 1) : goTo (dSys t st) q (labK t.labels k) = -1 := by
  have hG := dok_good hv h
  have hlk : labK t.labels k = t.labels[k + 1] := by unfold labK; rw [List.getD_eq_getElem?_getD, List.getElem?_eq_getElem hk]; rfl
  unfold goTo
  split
  · rfl
  · have hfind : st.edges.find? (hitB (dSys t st) q (labK t.labels k)) = none := by
      refine find_none fun j hj => ?_
      unfold hitB
      rw [Bool.and_eq_false_iff]
      by_cases hs : st.edges[j].src = q
      · right
        rw [beq_eq_false_iff_ne]
        intro hb
        obtain ⟨h1, h2, h3⟩ := lab_get hG (List.getElem_mem hj)
        have h4 : (labAt (dSys t st) st.edges[j]) = t.labels[st.edges[j].lab.toNat] := h2
        rw [h4, hlk] at hb
        have := labels_inj hv.labels _ _ h1 hk hb
        exact hn _ (List.getElem_mem hj) hs (by omega)
      · left
        rw [beq_eq_false_iff_ne]
        exact hs
    show ((st.edges.find? _).map Edge.dst).getD (-1) = -1
    rw [hfind]
    rfl
/-- Where a row's label leads: nowhere, or to the set behind it. -/
theorem go_row {t : Lts} {st : DNet} (hv : Valid t) (h : DOk t st) {i : Nat} {cur : List Int} (hc : st.rows[i]? = some cur) {k : Nat} (hk : k + 1 < t.labels.length) :
    (nextS t cur ((k : Int) + 1) = [] ∧ goTo (dSys t st) i (labK t.labels k) = -1) ∨ (nextS t cur ((k : Int) + 1) ≠ [] ∧ ∃ j : Nat, goTo (dSys t st) i (labK t.labels k) = j ∧ st.rows[j]? = some (nextS t cur ((k : Int) + 1))) := by
  have hG := dok_good hv h
  have hE := dok_eok h
  by_cases hne : nextS t cur ((k : Int) + 1) = []
  · refine .inl ⟨hne, go_none hv h hk fun e he hs hl => ?_⟩
    obtain ⟨c, h1, h2, -⟩ := hE e he
    rw [hs, Int.toNat_natCast, hc] at h1
    cases h1
    rw [hl] at h2
    exact h2 hne
  · refine .inr ⟨hne, ?_⟩
    have hi := (List.getElem?_eq_some_iff.1 hc).1
    obtain ⟨c, h1, h2, h3, h4⟩ := h.row hi
    rw [hc] at h2
    cases h2
    obtain ⟨r, hr⟩ := (h3 (k + 1) (by omega)).edges
    have hmem : (⟨(i : Int), (k : Int) + 1, (dplace (dmid t i cur (dAt t i) k).rows (nextS t cur (k + 1)) : Int)⟩ : Edge) ∈ st.edges := by
      rw [hr, dmid_succ]
      unfold dstep
      rw [if_neg hne]
      simp
    have hg := go_edge hv h hmem hk rfl
    obtain ⟨c2, k1, -, k3⟩ := hE _ hmem
    simp only [Int.toNat_natCast] at k1 k3
    rw [hc] at k1
    cases k1
    exact ⟨_, hg, k3⟩
/-- The number that a row's label leads to, when its turn came. -/
theorem go_place {t : Lts} {st : DNet} (hv : Valid t) (h : DOk t st) {i : Nat} {cur : List Int} (hc : (dAt t i).rows[i]? = some cur) (hi : i < st.rows.length) {k : Nat} (hk : k + 1 < t.labels.length) (hne : nextS t cur ((k : Int) + 1) ≠ []) :
    goTo (dSys t st) i (labK t.labels k) = (dplace (dmid t i cur (dAt t i) k).rows (nextS t cur ((k : Int) + 1)) : Int) := by
  obtain ⟨c, h1, h2, h3, h4⟩ := h.row hi
  rw [hc] at h1
  cases h1
  obtain ⟨r, hr⟩ := (h3 (k + 1) (by omega)).edges
  have hmem : (⟨(i : Int), (k : Int) + 1, (dplace (dmid t i cur (dAt t i) k).rows (nextS t cur (k + 1)) : Int)⟩ : Edge) ∈ st.edges := by
    rw [hr, dmid_succ]
    unfold dstep
    rw [if_neg hne]
    simp
  exact go_edge hv h hmem hk rfl

/-- A state's set; none for no state. -/
def setOf (st : DNet) (q : Int) : List Int := if q < 0 then [] else st.rows.getD q.toNat []
theorem nextS_nil {t : Lts} (hv : Valid t) (k : Int) : nextS t [] k = [] := by
  have hs := nextS_is hv [] k
  refine List.eq_nil_iff_forall_not_mem.2 fun x hx => ?_
  obtain ⟨a, ⟨e, -, -, he, -⟩, -⟩ := (hs.mem x).1 hx
  cases he
theorem setOf_at {st : DNet} {i : Nat} {cur : List Int} (h : st.rows[i]? = some cur) : setOf st (i : Int) = cur := by
  unfold setOf
  rw [if_neg (by omega), Int.toNat_natCast, List.getD_eq_getElem?_getD, h]
  rfl
theorem setOf_neg {st : DNet} {q : Int} (h : q < 0) : setOf st q = [] := by unfold setOf; rw [if_pos h]
/-- A label leads to the set behind the set. -/
theorem set_go {t : Lts} {st : DNet} (hv : Valid t) (h : DOk t st) {q : Int} (hq : q < (dSys t st).states) {k : Nat} (hk : k + 1 < t.labels.length) : setOf st (goTo (dSys t st) q (labK t.labels k)) = nextS t (setOf st q) ((k : Int) + 1) := by
  by_cases h0 : q < 0
  · rw [goTo_neg h0, setOf_neg (by decide), setOf_neg h0, nextS_nil hv]
  · have hq2 : q.toNat < st.rows.length := by have : q < (st.rows.length : Int) := hq; omega
    have hc : st.rows[q.toNat]? = some st.rows[q.toNat] := List.getElem?_eq_getElem hq2
    have e0 : q = ((q.toNat : Nat) : Int) := by omega
    rw [e0, setOf_at hc]
    rcases go_row hv h hc hk with ⟨h1, h2⟩ | ⟨h1, j, h2, h3⟩
    · rw [h2, setOf_neg (by decide), h1]
    · rw [h2, setOf_at h3]
theorem set_first {t : Lts} {st : DNet} (h : DOk t st) : setOf st 0 = firstS t := by
  obtain ⟨⟨m, hm, em, lm⟩, -⟩ := h
  obtain ⟨r, hr⟩ := (dAt_le t 0 m).rows
  rw [Nat.zero_add, em] at hr
  refine setOf_at (i := 0) ?_
  rw [hr, List.getElem?_append_left (by simp [dAt])]
  rfl
theorem set_some {t : Lts} {st : DNet} (hv : Valid t) (h : DOk t st) {q : Int} (h0 : 0 ≤ q) (hq : q < (dSys t st).states) : setOf st q ≠ [] := by
  have hG := dok_good hv h
  have hq2 : q.toNat < st.rows.length := by have : q < (st.rows.length : Int) := hq; omega
  have e0 : q = ((q.toNat : Nat) : Int) := by omega
  rw [e0, setOf_at (List.getElem?_eq_getElem hq2)]
  exact (hG.rows _ (List.getElem_mem hq2)).2.2

end Go.Proofs.YtpoleaekcjjedaaGreatDoor

namespace Go.Proofs.YtpoleaekcjjedaaGreatDoor
open Go Go.RowKit

section
variable {S : Type} {s0 : S} {step : S → Nat → S} {m : Nat}
/-- The first state met where something holds is behind the first word that leads to such a state. -/
theorem NSt.look {dead F : S → Prop} {N : List (List Nat)} {i : Nat} {u : List Nat} (hd : ∀ s a, dead s → dead (step s a)) (hdF : ∀ s, dead s → ¬ F s) (h : NSt s0 step m dead (fun _ => False) N i 0) (hu : N[i]? = some u) (hF : F (wAt s0 step u))
    (hno : ∀ (j : Nat) (v : List Nat), j < i → N[j]? = some v → ¬ F (wAt s0 step v)) : Least s0 step m F u := by
  obtain ⟨hi, hiu⟩ := List.getElem?_eq_some_iff.1 hu
  refine ⟨h.ok u (by rw [← hiu]; exact List.getElem_mem _), hF, fun v hv hs hFv => ?_⟩
  have hord : ∀ j (hj : j < N.length), ¬ j < i → sle u N[j] := fun j hj hn => by
    rcases Nat.lt_trichotomy j i with h1 | h1 | h1
    · exact absurd h1 hn
    · subst h1; exact .inl hiu.symm
    · have := List.pairwise_iff_getElem.1 h.sorted i j hi hj h1
      rw [hiu] at this
      exact .inr this
  rcases NSt.known hd h (fun x => slt x u) (fun a b h1 h2 => slt_trans h2 h1) (fun j v a hj ha hs => .inl (by
    obtain ⟨hjl, e⟩ := List.getElem?_eq_some_iff.1 hj
    refine Decidable.byContradiction fun hn => ?_
    have h1 := hord j hjl hn
    rw [e] at h1
    exact slt_irrefl _ (sle_lt h1 (slt_trans (slt_cons a v) hs)))) v hv hs with h1 | ⟨x, hx, he, hsx⟩
  · exact hdF _ h1 hFv
  · obtain ⟨j, hj, rfl⟩ := List.mem_iff_getElem.1 hx
    by_cases hji : j < i
    · exact hno j _ hji (List.getElem?_eq_getElem hj) (by rw [he]; exact hFv)
    · exact slt_irrefl _ (sle_lt (hord j hj hji) (sle_lt hsx hs))
theorem NSt.lookNone {dead F : S → Prop} {N : List (List Nat)} {i : Nat} (hd : ∀ s a, dead s → dead (step s a)) (hdF : ∀ s, dead s → ¬ F s) (h : NSt s0 step m dead (fun _ => False) N i 0) (hi : N.length ≤ i)
    (hno : ∀ (j : Nat) (v : List Nat), N[j]? = some v → ¬ F (wAt s0 step v)) : NoWord s0 step m F := by
  intro v hv hFv
  rcases NSt.known hd h (fun _ => True) (fun _ _ _ _ => trivial) (fun j v a hj _ _ => .inl (by have := (List.getElem?_eq_some_iff.1 hj).1; omega)) v hv trivial with h1 | ⟨x, hx, he, -⟩
  · exact hdF _ h1 hFv
  · obtain ⟨j, hj, rfl⟩ := List.mem_iff_getElem.1 hx
    exact hno j _ (List.getElem?_eq_getElem hj) (by rw [he]; exact hFv)
/-- Of a search that is done: the first word where something holds. -/
theorem NSt.pick {dead F : S → Prop} {N : List (List Nat)} {i j : Nat} {u : List Nat} (hd : ∀ s a, dead s → dead (step s a)) (hdF : ∀ s, dead s → ¬ F s) (h : NSt s0 step m dead (fun _ => False) N i 0) (hi : N.length ≤ i) (hu : N[j]? = some u) (hF : F (wAt s0 step u))
    (hno : ∀ (k : Nat) (v : List Nat), k < j → N[k]? = some v → ¬ F (wAt s0 step v)) : Least s0 step m F u := by
  obtain ⟨hj, hju⟩ := List.getElem?_eq_some_iff.1 hu
  refine ⟨h.ok u (by rw [← hju]; exact List.getElem_mem _), hF, fun v hv hs hFv => ?_⟩
  rcases NSt.known hd h (fun _ => True) (fun _ _ _ _ => trivial) (fun j v a hj _ _ => .inl (by have := (List.getElem?_eq_some_iff.1 hj).1; omega)) v hv trivial with h1 | ⟨x, hx, he, hsx⟩
  · exact hdF _ h1 hFv
  · obtain ⟨k, hk, rfl⟩ := List.mem_iff_getElem.1 hx
    by_cases hkj : k < j
    · exact hno k _ hkj (List.getElem?_eq_getElem hk) (by rw [he]; exact hFv)
    · have h2 : sle u N[k] := by
        rcases Nat.lt_trichotomy k j with h1 | h1 | h1
        · exact absurd h1 hkj
        · subst h1; exact .inl hju.symm
        · have := List.pairwise_iff_getElem.1 h.sorted j k hj hk h1
          rw [hju] at this
          exact .inr this
      exact slt_irrefl _ (sle_lt h2 (sle_lt hsx hs))
end

end Go.Proofs.YtpoleaekcjjedaaGreatDoor

namespace Go.Proofs.YtpoleaekcjjedaaGreatDoor
open Go Go.RowKit

theorem bothL_self {d : Lts} (h : LabelsOk d.labels) : bothL d d = d.labels := by
  unfold bothL
  refine labSet_eq (labels_pair h) fun x => ?_
  have h0 : tauT ∈ d.labels := by
    have : d.labels[0]'h.pos = tauT := toList_inj (by rw [h.first h.pos, tauT_list])
    rw [← this]
    exact List.getElem_mem _
  rw [List.mem_cons, List.mem_append]
  exact ⟨fun hx => hx.elim (fun e => e ▸ h0) (fun hx => hx.elim id id), fun hx => .inr (.inl hx)⟩
theorem difS_twin (d : Lts) (L : List ByteArray) : ∀ u, (difS d d L u).2 = (difS d d L u).1
  | [] => rfl
  | k :: u => by rw [difS_cons]; simp only; rw [difS_twin d L u]

/-- The words found when i states are done, of the next one k labels. -/
structure WaySt (t : Lts) (st : DNet) (N : List (List Nat)) (i k : Nat) : Prop where
  nst : NSt ((0 : Int), (0 : Int)) (goBoth (dSys t st) (dSys t st) t.labels) (t.labels.length - 1) deadB (fun _ => False) N i k
  num : ∀ (j : Nat) (u : List Nat), N[j]? = some u → difS (dSys t st) (dSys t st) t.labels u = ((j : Int), (j : Int))
  len : ∀ cur, (dAt t i).rows[i]? = some cur → N.length = (dmid t i cur (dAt t i) k).rows.length
  last : i = st.rows.length → N.length = st.rows.length
  upto : i ≤ st.rows.length
  few : N.length ≤ st.rows.length
theorem WaySt.start {t : Lts} {st : DNet} (hv : Valid t) (h : DOk t st) : WaySt t st [[]] 0 0 := by
  have hG := (dok_good hv h).some
  refine ⟨NSt.start (by rintro ⟨h1, -⟩; exact absurd h1 (by decide)) (fun h => h), fun j u hu => ?_, fun cur _ => ?_, fun e => by omega, Nat.zero_le _, ?_⟩
  · have hj := (List.getElem?_eq_some_iff.1 hu).1
    simp at hj
    subst hj
    simp at hu
    subst hu
    rfl
  · rw [dmid_zero]; simp [dAt]
  · simp; omega
theorem WaySt.at {t : Lts} {st : DNet} {N : List (List Nat)} {i k : Nat} (h : WaySt t st N i k) {u : List Nat} (hu : N[i]? = some u) (k' : Nat) : difS (dSys t st) (dSys t st) t.labels (k' :: u) = (goTo (dSys t st) i (labK t.labels k'), goTo (dSys t st) i (labK t.labels k')) := by
  rw [difS_cons, h.num i u hu]
theorem WaySt.pass {t : Lts} {st : DNet} (hv : Valid t) (hok : DOk t st) {N : List (List Nat)} {i k : Nat} (h : WaySt t st N i k) {u : List Nat} (hu : N[i]? = some u) (hk : k + 1 < t.labels.length)
    (hd : goTo (dSys t st) i (labK t.labels k) < 0 ∨ ∃ j : Nat, j < N.length ∧ goTo (dSys t st) i (labK t.labels k) = j) : WaySt t st N i (k + 1) := by
  have hi : i < st.rows.length := Nat.lt_of_lt_of_le (List.getElem?_eq_some_iff.1 hu).1 h.few
  obtain ⟨cur, hc, hcs, hle, hlast⟩ := hok.row hi
  have hat := h.at hu k
  refine ⟨h.nst.pass hu ?_, h.num, fun cur' hc' => ?_, h.last, h.upto, h.few⟩
  · rcases hd with hd | ⟨j, hj, he⟩
    · exact .inl (by show deadB (difS _ _ _ (k :: u)); rw [hat]; exact ⟨hd, hd⟩)
    · refine .inr ⟨N[j], List.getElem_mem _, ?_⟩
      show difS _ _ _ N[j] = difS _ _ _ (k :: u)
      rw [hat, h.num j N[j] (List.getElem?_eq_getElem hj), he]
  · rw [hc] at hc'
    cases hc'
    rw [dmid_succ, h.len cur hc]
    by_cases hne : nextS t cur ((k : Int) + 1) = []
    · rw [dstep_none hne]
    · have hp := go_place hv hok hc hi hk hne
      rcases hd with hd | ⟨j, hj, he⟩
      · rw [hp] at hd; omega
      · rw [dstep_old hne (by rw [← h.len cur hc]; rw [hp] at he; omega)]
theorem WaySt.meet {t : Lts} {st : DNet} (hv : Valid t) (hok : DOk t st) {N : List (List Nat)} {i k : Nat} (h : WaySt t st N i k) {u : List Nat} (hu : N[i]? = some u) (hk : k + 1 < t.labels.length)
    (h0 : ¬ goTo (dSys t st) i (labK t.labels k) < 0) (hn : ∀ j : Nat, j < N.length → goTo (dSys t st) i (labK t.labels k) ≠ j) : goTo (dSys t st) i (labK t.labels k) = N.length ∧ WaySt t st (N ++ [k :: u]) i (k + 1) := by
  have hi : i < st.rows.length := Nat.lt_of_lt_of_le (List.getElem?_eq_some_iff.1 hu).1 h.few
  obtain ⟨cur, hc, hcs, hle, hlast⟩ := hok.row hi
  have hat := h.at hu k
  have hlen := h.len cur hc
  have hne : nextS t cur ((k : Int) + 1) ≠ [] := fun e => by
    rcases go_row hv hok hcs hk with ⟨-, h2⟩ | ⟨h1, -⟩
    · omega
    · exact h1 e
  have hp := go_place hv hok hc hi hk hne
  have hpl := dplace_le (dmid t i cur (dAt t i) k).rows (nextS t cur ((k : Int) + 1))
  have hpn : ¬ dplace (dmid t i cur (dAt t i) k).rows (nextS t cur ((k : Int) + 1)) < (dmid t i cur (dAt t i) k).rows.length := fun hlt => hn _ (by rw [hlen]; exact hlt) hp
  have hto : goTo (dSys t st) i (labK t.labels k) = N.length := by rw [hp, hlen]; omega
  have hlen2 : (N ++ [k :: u]).length = (dmid t i cur (dAt t i) (k + 1)).rows.length := by
    rw [dmid_succ, dstep_new hne hpn, List.length_append, List.length_append, hlen]
    rfl
  refine ⟨hto, h.nst.meet hu (by omega) ?_ (fun h => h) (fun x hx e => ?_), fun j x hx => ?_, fun cur' hc' => ?_, fun e => by omega, h.upto, ?_⟩
  · show ¬ deadB (difS _ _ _ (k :: u))
    rw [hat]
    rintro ⟨h1, -⟩
    exact h0 h1
  · obtain ⟨j, hj, rfl⟩ := List.mem_iff_getElem.1 hx
    have e2 : difS (dSys t st) (dSys t st) t.labels N[j] = difS (dSys t st) (dSys t st) t.labels (k :: u) := e
    rw [hat, h.num j N[j] (List.getElem?_eq_getElem hj)] at e2
    exact hn j hj (Prod.ext_iff.1 e2).1.symm
  · by_cases hj : j < N.length
    · rw [List.getElem?_append_left hj] at hx
      exact h.num j x hx
    · have hj2 := (List.getElem?_eq_some_iff.1 hx).1
      rw [List.length_append, List.length_singleton] at hj2
      have e : j = N.length := by omega
      subst e
      rw [List.getElem?_concat_length] at hx
      cases hx
      rw [hat, hto]
  · rw [hc] at hc'
    cases hc'
    exact hlen2
  · rw [hlen2]
    obtain ⟨r, hr⟩ := (hle (k + 1) (by omega)).rows
    rw [hr, List.length_append]
    omega
theorem WaySt.next {t : Lts} {st : DNet} (hok : DOk t st) {N : List (List Nat)} {i : Nat} (h : WaySt t st N i (t.labels.length - 1)) (hi : i < N.length) : WaySt t st N (i + 1) 0 := by
  have hi2 : i < st.rows.length := Nat.lt_of_lt_of_le hi h.few
  obtain ⟨cur, hc, hcs, hle, hlast⟩ := hok.row hi2
  have hlen := h.len cur hc
  rw [hlast] at hlen
  refine ⟨h.nst.next, h.num, fun cur' hc' => by rw [dmid_zero]; exact hlen, fun e => ?_, hi2, h.few⟩
  obtain ⟨⟨m, hm, em, lm⟩, -⟩ := hok
  rw [hlen, e, lm, em]
  exact lm
theorem WaySt.done {t : Lts} {st : DNet} (hok : DOk t st) {N : List (List Nat)} {i : Nat} (h : WaySt t st N i 0) (hi : ¬ i < N.length) : N.length = st.rows.length := by
  by_cases e : i = st.rows.length
  · exact h.last e
  · exfalso
    have hi2 : i < st.rows.length := by have := h.upto; omega
    obtain ⟨cur, hc, -, -, -⟩ := hok.row hi2
    have h1 := h.len cur hc
    rw [dmid_zero] at h1
    have := (List.getElem?_eq_some_iff.1 hc).1
    omega
/-- The words to all states, in the order of the states. -/
def WaysAll (t : Lts) (st : DNet) (N : List (List Nat)) : Prop := N.length = st.rows.length ∧ WaySt t st N st.rows.length 0
theorem WaySt.all {t : Lts} {st : DNet} (hok : DOk t st) {N : List (List Nat)} {i : Nat} (h : WaySt t st N i 0) (hi : ¬ i < N.length) : WaysAll t st N := by
  have h1 := h.done hok hi
  have h2 := h.upto
  have e : i = st.rows.length := by omega
  subst e
  exact ⟨h1, h⟩
theorem WaySt.short {t : Lts} {st : DNet} {N : List (List Nat)} {i k : Nat} (h : WaySt t st N i k) : ∀ (j : Nat) (u : List Nat), N[j]? = some u → u.length ≤ j := by
  intro j
  induction j using Nat.strongRecOn with
  | _ j ih =>
    intro u hu
    obtain ⟨hj, hju⟩ := List.getElem?_eq_some_iff.1 hu
    rcases h.nst.par u (by rw [← hju]; exact List.getElem_mem _) with rfl | ⟨a, j', v, rfl, hv, -⟩
    · exact Nat.zero_le _
    · obtain ⟨hj', hjv⟩ := List.getElem?_eq_some_iff.1 hv
      have hlt : j' < j := by
        rcases Nat.lt_trichotomy j' j with h1 | h1 | h1
        · exact h1
        · exfalso
          subst h1
          rw [hju] at hjv
          have := congrArg List.length hjv
          simp at this
        · exfalso
          have := List.pairwise_iff_getElem.1 h.nst.sorted j j' hj hj' h1
          rw [hju, hjv] at this
          exact slt_irrefl _ (slt_trans this (slt_cons a v))
      have := ih j' hlt v hv
      rw [List.length_cons]
      omega
theorem WaysAll.few {t : Lts} {st : DNet} (hs : DSmall st) {N : List (List Nat)} (h : WaysAll t st N) {j : Nat} {u : List Nat} (hu : N[j]? = some u) : (txtsOf t.labels u).length ≤ 40 := by
  have h1 := h.2.short j u hu
  have h2 := (List.getElem?_eq_some_iff.1 hu).1
  have h3 := h.1
  have h4 := hs.1
  simp only [txtsOf, List.length_map, List.length_reverse]
  omega
/-- The first state, in the order of the states, where something holds: its word is the first one. -/
theorem WaysAll.least {t : Lts} {st : DNet} {N : List (List Nat)} (h : WaysAll t st N) {G : Int → Prop} {j : Nat} {u : List Nat} (hu : N[j]? = some u) (hG : G (j : Int)) (hno : ∀ k : Nat, k < j → ¬ G (k : Int)) :
    Least ((0 : Int), (0 : Int)) (goBoth (dSys t st) (dSys t st) t.labels) (t.labels.length - 1) (liveF fun p => G p.1) u := by
  refine NSt.pick (deadB_step _ _ _) liveF_not h.2.nst (by rw [h.1]; exact Nat.le_refl _) hu ?_ fun k v hk hv hF => ?_
  · show liveF _ (difS _ _ _ u)
    rw [h.2.num j u hu]
    exact ⟨fun hd => by have := hd.1; simp only at this; omega, hG⟩
  · have hF2 : liveF (fun p => G p.1) (difS (dSys t st) (dSys t st) t.labels v) := hF
    rw [h.2.num k v hv] at hF2
    exact hno k hk hF2.2
theorem WaysAll.none {t : Lts} {st : DNet} {N : List (List Nat)} (h : WaysAll t st N) {G : Int → Prop} (hno : ∀ k : Nat, k < st.rows.length → ¬ G (k : Int)) :
    NoWord ((0 : Int), (0 : Int)) (goBoth (dSys t st) (dSys t st) t.labels) (t.labels.length - 1) (liveF fun p => G p.1) := by
  refine NSt.lookNone (deadB_step _ _ _) liveF_not h.2.nst (by rw [h.1]; exact Nat.le_refl _) fun k v hv hF => ?_
  have hF2 : liveF (fun p => G p.1) (difS (dSys t st) (dSys t st) t.labels v) := hF
  rw [h.2.num k v hv] at hF2
  have := (List.getElem?_eq_some_iff.1 hv).1
  exact hno k (by have := h.1; omega) hF2.2

end Go.Proofs.YtpoleaekcjjedaaGreatDoor

namespace Go.Proofs.YtpoleaekcjjedaaGreatDoor
open Go Go.RowKit

/-- A function that is asked of a set of states. -/
def AskSet (fid : Nat) (caps : Array Value) (t : Lts) (G : List Int → Prop) (w : World) : Prop :=
  ∀ w', Below w.heap.size w w' → ∀ (lo2 : Nat) (v : Value) (S : List Int), SliceK 1 encI lo2 w' v S → (∀ x ∈ S, 0 ≤ x ∧ x < t.states) → S.length ≤ 40 → Calls Tryz.prog fid (#[v] ++ caps) w' (Decides (G S) w')
theorem AskSet.below {fid : Nat} {caps : Array Value} {t : Lts} {G : List Int → Prop} {w w1 : World} (h : AskSet fid caps t G w) (hb : Below w.heap.size w w1) : AskSet fid caps t G w1 :=
  fun w' hb' => h w' (hb.trans (hb'.mono hb.size))

set_option maxRecDepth 100000 in
set_option maxHeartbeats 1000000 in
theorem firstAfter1_any (lo : Nat) (t : Lts) (st : DNet) (fid : Nat) (caps : Array Value) (G : List Int → Prop) (fb sb : Nat) (vr : Value) (vs : List Value) (p q : Int) (w : World) (hG : DGood t st) (h40 : ∀ r ∈ st.rows, r.length ≤ 40) (hp0 : 0 ≤ p) (hp1 : p < (st.rows.length : Int))
    (hfl : fb < w.heap.size) (hfb : w.cell? ⟨fb, 0, none⟩ = some (.func (.func fid) #[] caps)) (hsl : sb < w.heap.size) (hsb : w.cell? ⟨sb, 0, none⟩ = some vr) (hr : OwnIntss 83 2 lo w vr vs st.rows)
    (eg : ∀ args w, (callFunc fid args).run Tryz.prog w = .ok (.enter fid args) w) (hA : AskSet fid caps t G w) :
    Calls Tryz.prog 129 #[.int .i64 p, .int .i64 q, .pointer (some ⟨fb, 0, none⟩), .pointer (some ⟨sb, 0, none⟩)] w (Decides (G (setOf st p)) w) := by
  obtain ⟨n, hn⟩ : ∃ n : Nat, (n : Int) = p := ⟨p.toNat, by omega⟩
  have hnl : n < st.rows.length := by omega
  rw [← hn, setOf_at (List.getElem?_eq_getElem hnl)]
  obtain ⟨b, c, u, rfl, hbl, hcu, -, hsu⟩ := hr.rowAt hnl
  obtain ⟨R, hR⟩ : ∃ R, R = st.rows.length := ⟨_, rfl⟩
  rw [← hR] at hsb hnl
  have hin : ∀ x ∈ st.rows[n], 0 ≤ x ∧ x < t.states := (hG.rows _ (List.getElem_mem (by omega))).1
  have hln := h40 _ (List.getElem_mem (show n < st.rows.length by omega))
  obtain ⟨S, hS⟩ : ∃ S, S = st.rows[n] := ⟨_, rfl⟩
  rw [← hS] at hsu hin hln ⊢
  have HSU := Lib.hid hsu
  have HIN := Lib.hid hin
  have HA := Lib.hid hA
  have lf := later_cell hfl hfb
  have ls := later_cell hsl hsb
  have lu := later_cell hbl hcu
  clear hr hA hG hin hsu hn hS hfb hsb hcu hR hp0 hp1
  by_cases hg : G S
  · have HC : Hid (∀ g : Later w, Calls Tryz.prog fid (#[u] ++ caps) g.w fun e w' => e = .returned (.bool true) ∧ Below g.w.heap.size g.w w') := fun g => Decides.yes (HA.out g.w g.h lo u S (HSU.out.below g.h) HIN.out hln) hg
    have HG := Lib.hid hg
    clear hg
    go_enter Tryz.func129, Tryz.ntmps129
    go_wp2
    refine wp_region_later (by kernel_rfl) (by kernel_rfl) ?_
    repeat (go_big_quiet_step ((exact later_call (HC.out _))))
    refine wpQuiet_nil ?_
    intro _ hw9
    obtain ⟨nl, hw8⟩ := hw9
    subst hw8
    go_wp2
    go_ret
    exact ⟨true, rfl, ⟨fun _ => HG.out, fun _ => rfl⟩, nl.h⟩
  · have HC : Hid (∀ g : Later w, Calls Tryz.prog fid (#[u] ++ caps) g.w fun e w' => e = .returned (.bool false) ∧ Below g.w.heap.size g.w w') := fun g => Decides.no (HA.out g.w g.h lo u S (HSU.out.below g.h) HIN.out hln) hg
    have HG := Lib.hid hg
    clear hg
    go_enter Tryz.func129, Tryz.ntmps129
    go_wp2
    refine wp_region_later (by kernel_rfl) (by kernel_rfl) ?_
    repeat (go_big_quiet_step ((exact later_call (HC.out _))))
    refine wpQuiet_nil ?_
    intro _ hw9
    obtain ⟨nl, hw8⟩ := hw9
    subst hw8
    go_wp2
    go_ret
    exact ⟨false, rfl, ⟨(fun h => by cases h), fun h => absurd h HG.out⟩, nl.h⟩

/-- What firstAfter returns. -/
def RetFa (t : Lts) (G : List Int → Prop) (w : World) (e : Ending) (w' : World) : Prop :=
  Below w.heap.size w w' ∧ ((DFull t ∧ e = .returned (.tuple #[.slice none 0 0, .bool false, .bool false]))
    ∨ ∃ (st : DNet) (r : Bool) (xs : List ByteArray) (v : Value), DOk t st ∧ e = .returned (.tuple #[v, .bool r, .bool true]) ∧ FirstIs (dSys t st) (dSys t st) t.labels (fun p => G (setOf st p.1)) r xs ∧ OwnStrs w.heap.size w' v xs)

set_option maxRecDepth 100000 in
set_option maxHeartbeats 4000000 in
theorem firstAfter_any (lo : Nat) (t : Lts) (lv ev : Value) (fid : Nat) (caps : Array Value) (G : List Int → Prop) (w : World) (hv : Valid t) (hsh : Short20 t.labels) (hl : SliceK 1 encS lo w lv t.labels) (he : SliceK 3 encE lo w ev t.edges) (g : Glob w)
    (eg : ∀ args w, (callFunc fid args).run Tryz.prog w = .ok (.enter fid args) w) (hA : AskSet fid caps t G w) :
    Calls Tryz.prog 67 #[.agg #[.int .i64 t.states, .int .i64 t.initial, lv, ev], .func (.func fid) #[] caps] w (RetFa t G w) := by
  obtain ⟨p, hp⟩ : ∃ p, p = w.heap.size := ⟨_, rfl⟩
  obtain ⟨W, hW⟩ : ∃ W, W = (w.alloc (.cells #[.int .i64 t.states, .int .i64 t.initial, lv, ev] 31)).alloc (.cells #[.func (.func fid) #[] caps] 92) := ⟨_, rfl⟩
  have hB0 : Below w.heap.size w W := by rw [hW]; exact ((Below.refl _ _).alloc (Nat.le_refl _) _).alloc (by simp) _
  have hF : Blk W (p + 1) [.func (.func fid) #[] caps] 92 := by
    have := Blk.new (w.alloc (.cells #[.int .i64 t.states, .int .i64 t.initial, lv, ev] 31)) [.func (.func fid) #[] caps] 92
    rw [World.size_alloc, ← hp] at this
    rw [hW]
    exact this
  have HD := Lib.hid (determinize_any lo t lv ev W hv hsh (hl.below hB0) (he.below hB0) (g.below hB0))
  have HV := Lib.hid hv
  have HF := Lib.hid hF
  have HA := Lib.hid (hA.below hB0)
  have HB0 := Lib.hid hB0
  have HW := Lib.hid hW
  have HP := Lib.hid hp
  clear hv hsh hl he g hA hB0 hF hW hp
  go_enter Tryz.func67, Tryz.ntmps67
  go_wp2_with fail
  rw [← HW.out]
  try rw [← HP.out]
  refine Calls.mono HD.out ?_
  rintro e w1 ⟨hb1, ⟨hf, rfl⟩ | ⟨st, lv2, vr, ve, hok, rfl, ⟨⟨vs, hiv⟩, hed⟩, hlb⟩⟩
  · have HFU := Lib.hid hf
    have HB1 := Lib.hid (HB0.out.trans (hb1.mono HB0.out.size))
    clear hf hb1
    go_wp2
    go_ret3
    exact ⟨(HB1.out.alloc HB1.out.size _).alloc (by have := HB1.out.size; simp; omega) _, .inl ⟨HFU.out, rfl⟩⟩
  · have HOK := Lib.hid hok
    have HGD := Lib.hid (dok_good HV.out hok)
    obtain ⟨al, cl, rfl, -, -⟩ := owns_slice hlb
    obtain ⟨ae, ce, rfl, -, -⟩ := owns_slice hed
    obtain ⟨av, cv, rfl, -, -⟩ := owns_slice hiv.2.1
    obtain ⟨d, hd⟩ : ∃ d, d = dSys t st := ⟨_, rfl⟩
    obtain ⟨R, hR⟩ : ∃ R, R = st.rows.length := ⟨_, rfl⟩
    have hds : d.states = (R : Int) := by rw [hd, hR]; rfl
    obtain ⟨LN, hLN⟩ : ∃ LN, LN = t.labels.length := ⟨_, rfl⟩
    obtain ⟨EN, hEN⟩ : ∃ EN, EN = st.edges.length := ⟨_, rfl⟩
    obtain ⟨VN, hVN⟩ : ∃ VN, VN = vs.length := ⟨_, rfl⟩
    rw [← hLN] at hlb
    rw [← hEN] at hed
    rw [← hVN] at hiv
    rw [← hR, ← hLN, ← hEN, ← hVN]
    obtain ⟨W2, hW2⟩ : ∃ W2, W2 = (w1.alloc (.cells #[.int .i64 R, .int .i64 0, .slice al LN cl, .slice ae EN ce] 31)).alloc (.cells #[.slice av VN cv] 54) := ⟨_, rfl⟩
    obtain ⟨q, hq⟩ : ∃ q, q = w1.heap.size := ⟨_, rfl⟩
    have hb2 : Below w1.heap.size w1 W2 := by rw [hW2]; exact ((Below.refl _ _).alloc (Nat.le_refl _) _).alloc (by simp) _
    have hX : Blk W2 q [.int .i64 R, .int .i64 0, .slice al LN cl, .slice ae EN ce] 31 := by rw [hW2, hq]; exact (Blk.new w1 _ _).alloc _
    have hY : Blk W2 (q + 1) [.slice av VN cv] 54 := by
      have := Blk.new (w1.alloc (.cells #[.int .i64 R, .int .i64 0, .slice al LN cl, .slice ae EN ce] 31)) [.slice av VN cv] 54
      rw [World.size_alloc, ← hq] at this
      rw [hW2]
      exact this
    have hbW2 : Below W.heap.size W W2 := hb1.trans (hb2.mono hb1.size)
    have hF2 := HF.out.below hbW2
    have HIV2 := Lib.hid (hiv.below hb2)
    have HA2 := Lib.hid (HA.out.below hbW2)
    have LD : LtsIn W.heap.size W2 (.slice al LN cl) (.slice ae EN ce) d := by
      refine ⟨?_, ?_⟩
      · rw [hd]; exact SliceK.of_owns (e := 9) encS_len hLN (by rw [flat_encS]; exact owns_below hlb hb2)
      · rw [hd]; exact SliceK.of_owns (e := 135) encE_len hEN (owns_below hed hb2)
    have hask : Asks 129 #[.pointer (some ⟨p + 1, 0, none⟩), .pointer (some ⟨q + 1, 0, none⟩)] d d (fun z => G (setOf st z.1)) W2 := by
      intro w' hb' x y hx hy hnd ⟨L, u, hu⟩
      have hxy : x = y := by
        have h := difS_twin d L u
        rw [hu] at h
        exact h.symm
      have hx0 : 0 ≤ x := by
        refine Decidable.byContradiction fun hn => hnd ⟨?_, ?_⟩
        · show x < 0; omega
        · show y < 0; omega
      have h := firstAfter1_any W.heap.size t st fid caps G (p + 1) (q + 1) (.slice av VN cv) vs x y w' HGD.out (fun r hr => (HGD.out.rowOk HV.out r hr).len) hx0 (by rw [← hR, ← hds]; exact hx.2) (hF2.below hb').lt ((hF2.below hb').cell 0 rfl) (hY.below hb').lt ((hY.below hb').cell 0 rfl) (by rw [hVN]; have h := HIV2.out.below hb'; rw [hVN] at h; exact h) eg (HA2.out.below hb')
      exact h
    have HFI := Lib.hid (firstTrace_any W.heap.size d d (.slice al LN cl) (.slice ae EN ce) (.slice al LN cl) (.slice ae EN ce) 129 #[.pointer (some ⟨p + 1, 0, none⟩), .pointer (some ⟨q + 1, 0, none⟩)] (fun z => G (setOf st z.1)) W2 (by rw [hd]; exact dSys_valid HV.out hok) (by rw [hd]; exact dSys_valid HV.out hok) (by rw [hd]; exact dSys_single HV.out hok) (by rw [hd]; exact dSys_single HV.out hok) (by rw [hd]; rfl) (by rw [hd]; rfl) LD LD (fun args w => by kernel_rfl) hask)
    rw [hds, show d.initial = 0 from by rw [hd]; rfl] at HFI
    have HBO : Hid (bothL d d = t.labels) := by unfold Hid; rw [hd]; exact bothL_self HV.out.labels
    have HDD := Lib.hid hd
    have HBW2 := Lib.hid hbW2
    have HW2 := Lib.hid hW2
    have HQ := Lib.hid hq
    have x0 := hX.cell 0 rfl
    have x1 := hX.cell 1 rfl
    have x2 := hX.cell 2 rfl
    have x3 := hX.cell 3 rfl
    have hxl := hX.lt
    rw [hW2] at x0 x1 x2 x3 hxl
    clear hok hlb hed hiv hb1 hb2 hX hY hbW2 hF2 LD hask hds hR hLN hEN hVN hW2 hq hd HD
    go_wp2_with fail
    try rw [← HW2.out]
    try rw [← HQ.out]
    try rw [← HW2.out]
    refine Calls.mono HFI.out ?_
    rintro e w3 ⟨hb3, r, xs, v, rfl, hfi, hown⟩
    obtain ⟨a3, c3, rfl, -, -⟩ := owns_slice hown
    have HB3 := Lib.hid (HB0.out.trans ((HBW2.out.trans (hb3.mono HBW2.out.size)).mono HB0.out.size))
    have HO3 : Hid (OwnStrs w.heap.size w3 (.slice a3 xs.length c3) xs) := own_lower hown (Nat.le_trans HB0.out.size HBW2.out.size)
    have HR3 : Hid (FirstIs (dSys t st) (dSys t st) t.labels (fun z => G (setOf st z.1)) r xs) := by
      have h := hfi
      rw [HBO.out, HDD.out] at h
      exact h
    clear hb3 hfi hown x0 x1 x2 x3 hxl HFI
    go_wp2
    go_ret3
    exact ⟨HB3.out, .inr ⟨st, r, xs, _, HOK.out, rfl, HR3.out, HO3.out⟩⟩

end Go.Proofs.YtpoleaekcjjedaaGreatDoor

namespace Go.Proofs.YtpoleaekcjjedaaGreatDoor
open Go Go.RowKit

/-- A text among texts. -/
def inT (ss : List ByteArray) (s : ByteArray) : Bool := ss.any fun t => t.toList == s.toList
theorem inT_mem {ss : List ByteArray} {s : ByteArray} : inT ss s = true ↔ s ∈ ss := by
  unfold inT
  rw [List.any_eq_true]
  exact ⟨fun ⟨x, hx, h⟩ => toList_inj (eq_of_beq h) ▸ hx, fun h => ⟨s, h, by simp⟩⟩
theorem inT_congr {a b : List ByteArray} (h : ∀ s, s ∈ a ↔ s ∈ b) (s : ByteArray) : inT a s = inT b s := by
  rw [Bool.eq_iff_iff, inT_mem, inT_mem]; exact h s
/-- The labels of the edges from a state. -/
def rdy (t : Lts) (k : Int) : List ByteArray := labSet ((outOf t k).map (labAt t))
/-- The visible ones. -/
def vis (t : Lts) (k : Int) : List ByteArray := labSet (((outOf t k).filter fun e => decide (0 < e.lab)).map (labAt t))
/-- No internal edge leads from a state. -/
def stableB (t : Lts) (k : Int) : Bool := t.edges.all fun e => !((e.src == k) && (e.lab == 0))
theorem stable_out {t : Lts} {k : Int} : stableB t k = true ↔ ∀ e ∈ outOf t k, e.lab ≠ 0 := by
  unfold stableB outOf
  rw [List.all_eq_true]
  constructor
  · intro h e he hl
    obtain ⟨h1, h2⟩ := List.mem_filter.1 he
    have := h e h1
    rw [h2, hl] at this
    simp at this
  · intro h e he
    by_cases hs : (e.src == k) = true
    · have := h e (List.mem_filter.2 ⟨he, hs⟩)
      simp [this]
    · simp [Bool.eq_false_iff.2 hs]
theorem vis_stable {t : Lts} (hv : Valid t) {k : Int} (h : stableB t k = true) : vis t k = rdy t k := by
  unfold vis rdy
  rw [List.filter_eq_self.2 fun e he => ?_]
  have h1 := stable_out.1 h e he
  obtain ⟨i, hi, hie⟩ := List.mem_iff_getElem.1 (List.mem_filter.1 he).1
  have h2 := (hv.edge i hi).l0
  rw [hie] at h2
  simp
  omega
theorem lab_tau {t : Lts} (hv : Valid t) {e : Edge} (he : e ∈ t.edges) : labAt t e = tauT ↔ e.lab = 0 := by
  obtain ⟨i, hi, rfl⟩ := List.mem_iff_getElem.1 he
  have hok := hv.edge i hi
  obtain ⟨hlt, hl⟩ := labAt_idx hok
  obtain ⟨h0, ht⟩ := tau_first hv
  rw [hl]
  constructor
  · intro h
    have := labels_inj hv.labels _ 0 hlt h0 (by rw [h, ht])
    have := hok.l0
    omega
  · intro h
    have e0 : t.edges[i].lab.toNat = 0 := by omega
    rw [← ht]
    congr 1
theorem tau_rdy {t : Lts} (hv : Valid t) (k : Int) : inT (rdy t k) tauT = !stableB t k := by
  have h1 : inT (rdy t k) tauT = true ↔ ¬ stableB t k = true := by
    rw [inT_mem, stable_out]
    unfold rdy
    rw [(labSet_is _).2, List.mem_map]
    constructor
    · rintro ⟨e, he, hl⟩ h
      exact h e he ((lab_tau hv (List.mem_filter.1 he).1).1 hl)
    · intro h
      refine Decidable.byContradiction fun hn => h fun e he hl => hn ⟨e, he, (lab_tau hv (List.mem_filter.1 he).1).2 hl⟩
  cases h2 : stableB t k
  · rw [Bool.not_false]
    exact h1.2 (by rw [h2]; simp)
  · rw [Bool.not_true, Bool.eq_false_iff]
    intro h
    exact h1.1 h h2
/-- The stable ones among states. -/
def stabs (t : Lts) (l : List Int) : List Int := l.filter (stableB t)
/-- What one list has and another one has not. -/
def lackL (set other : List ByteArray) : List ByteArray := set.filter fun s => !inT other s
def withinL (a b : List ByteArray) : Bool := a.all (inT b)
theorem lack_nil {a b : List ByteArray} : (lackL a b).length = 0 ↔ withinL a b = true := by
  unfold lackL withinL
  rw [List.length_eq_zero_iff, List.filter_eq_nil_iff, List.all_eq_true]
  constructor
  · intro h s hs
    have := h s hs
    cases h2 : inT b s
    · rw [h2] at this; simp at this
    · rfl
  · intro h s hs
    rw [h s hs]
    simp
/-- An offer is met by none of the stable states of others. -/
def excB (a b : Lts) (after : List Int) (k : Int) : Bool := !((stabs a after).any fun j => withinL (rdy a j) (rdy b k))
def excL (a b : Lts) (after states : List Int) : Int := ((stabs b states).find? (excB a b after)).getD (-1)
theorem excL_iff {a b : Lts} {after states : List Int} (h : ∀ x ∈ states, 0 ≤ x) : 0 ≤ excL a b after states ↔ ∃ x ∈ stabs b states, excB a b after x = true := by
  unfold excL
  cases hf : (stabs b states).find? (excB a b after) with
  | none =>
    rw [List.find?_eq_none] at hf
    simp only [Option.getD_none]
    exact ⟨fun h => by omega, fun ⟨x, hx, h⟩ => absurd h (hf x hx)⟩
  | some x =>
    have h1 := List.mem_of_find?_eq_some hf
    have h2 := List.find?_some hf
    simp only [Option.getD_some]
    exact ⟨fun _ => ⟨x, h1, h2⟩, fun _ => h x (List.mem_filter.1 h1).1⟩
/-- The pair of states of both deterministic systems where the second one does something that the first one does not allow. -/
def badP (a b : Lts) (sa sb : DNet) (p : Int × Int) : Prop := 0 ≤ p.2 ∧ (p.1 < 0 ∨ 0 ≤ excL a b (setOf sa p.1) (setOf sb p.2))
/-- What is refused there. -/
def refL (a b : Lts) (sa sb : DNet) (p : Int × Int) : List ByteArray := if p.1 < 0 then [] else lackL ((bothL a b).drop 1) (rdy b (excL a b (setOf sa p.1) (setOf sb p.2)))
/-- Whether it refines; the trace; the refusal; the code. -/
def RefIs (a b : Lts) (r : Bool) (xs ys : List ByteArray) (code : Int) : Prop :=
  (¬ (Valid a ∧ Valid b) ∧ r = false ∧ xs = [] ∧ ys = [] ∧ code = 1) ∨ ((Valid a ∧ Valid b) ∧ (DFull a ∨ DFull b) ∧ r = false ∧ xs = [] ∧ ys = [] ∧ code = 5)
    ∨ ((Valid a ∧ Valid b) ∧ ∃ sa sb, DOk a sa ∧ DOk b sb ∧ code = 0 ∧ ((NoWord ((0 : Int), (0 : Int)) (goBoth (dSys a sa) (dSys b sb) (bothL a b)) ((bothL a b).length - 1) (badP a b sa sb) ∧ r = true ∧ xs = [] ∧ ys = [])
      ∨ ∃ u, Least ((0 : Int), (0 : Int)) (goBoth (dSys a sa) (dSys b sb) (bothL a b)) ((bothL a b).length - 1) (badP a b sa sb) u ∧ r = false ∧ xs = txtsOf (bothL a b) u ∧ ys = refL a b sa sb (difS (dSys a sa) (dSys b sb) (bothL a b) u)))
theorem RefIs.unique {a b : Lts} {r r' : Bool} {xs xs' ys ys' : List ByteArray} {code code' : Int} (h : RefIs a b r xs ys code) (k : RefIs a b r' xs' ys' code') : r = r' ∧ xs = xs' ∧ ys = ys' ∧ code = code' := by
  rcases h with ⟨h1, h2, h3, h4, h5⟩ | ⟨h1, h2, h3, h4, h5, h6⟩ | ⟨h1, sa, sb, h2, h3, h4, h5⟩ <;>
    rcases k with ⟨k1, k2, k3, k4, k5⟩ | ⟨k1, k2, k3, k4, k5, k6⟩ | ⟨k1, sa', sb', k2, k3, k4, k5⟩ <;>
    first
    | exact absurd k1 h1
    | exact absurd h1 k1
    | exact ⟨h2.trans k2.symm, h3.trans k3.symm, h4.trans k4.symm, h5.trans k5.symm⟩
    | exact ⟨h3.trans k3.symm, h4.trans k4.symm, h5.trans k5.symm, h6.trans k6.symm⟩
    | exact absurd k2 (fun e => e.elim h2.not_full h3.not_full)
    | exact absurd h2 (fun e => e.elim k2.not_full k3.not_full)
    | skip
  have e1 := h2.1.unique k2.1
  have e2 := h3.1.unique k3.1
  subst e1 e2
  rcases h5 with ⟨a1, a2, a3, a4⟩ | ⟨u, a1, a2, a3, a4⟩ <;> rcases k5 with ⟨b1, b2, b3, b4⟩ | ⟨u', b1, b2, b3, b4⟩ <;>
    first
    | exact ⟨a2.trans b2.symm, a3.trans b3.symm, a4.trans b4.symm, h4.trans k4.symm⟩
    | exact (b1.some a1).elim
    | exact (a1.some b1).elim
    | (have := a1.unique b1; subst this; exact ⟨a2.trans b2.symm, a3.trans b3.symm, a4.trans b4.symm, h4.trans k4.symm⟩)
/-- The same, of both directions. -/
def EqfIs (a b : Lts) (r : Bool) (code : Int) : Prop := ∃ r1 xs1 ys1 r2 xs2 ys2, RefIs a b r1 xs1 ys1 code ∧ RefIs b a r2 xs2 ys2 code ∧ r = (r1 && r2)
theorem EqfIs.unique {a b : Lts} {r r' : Bool} {code code' : Int} (h : EqfIs a b r code) (k : EqfIs a b r' code') : r = r' ∧ code = code' := by
  obtain ⟨r1, x1, y1, r2, x2, y2, h1, h2, rfl⟩ := h
  obtain ⟨s1, z1, u1, s2, z2, u2, k1, k2, rfl⟩ := k
  obtain ⟨rfl, -, -, rfl⟩ := h1.unique k1
  obtain ⟨rfl, -⟩ := h2.unique k2
  exact ⟨rfl, rfl⟩

end Go.Proofs.YtpoleaekcjjedaaGreatDoor

namespace Go.Proofs.YtpoleaekcjjedaaGreatDoor
open Go Go.RowKit

noncomputable section
/-- Behind a label from a set. -/
def nxtL (t : Lts) (S : List Int) (l : ByteArray) : List Int := if inT t.labels l = true then nextS t S (idxL t.labels l : Nat) else []
/-- Behind a trace. -/
def aftL (t : Lts) (tr : List ByteArray) : List Int := tr.foldl (nxtL t) (firstS t)
end
theorem aftL_snoc (t : Lts) (tr : List ByteArray) (l : ByteArray) : aftL t (tr ++ [l]) = nxtL t (aftL t tr) l := by unfold aftL; rw [List.foldl_append]; rfl
/-- A label leads from a state of the deterministic system to the set behind its set. -/
theorem set_goL {t : Lts} {st : DNet} (hv : Valid t) (h : DOk t st) {q : Int} (hq : q < (dSys t st).states) {l : ByteArray} (hl : l ≠ tauT) : setOf st (goTo (dSys t st) q l) = nxtL t (setOf st q) l := by
  unfold nxtL
  by_cases hm : inT t.labels l = true
  · rw [if_pos hm]
    obtain ⟨hk, he, -⟩ := idxL_get (inT_mem.1 hm)
    obtain ⟨h0, ht⟩ := tau_first hv
    have h1 : 1 ≤ idxL t.labels l := by
      refine Nat.one_le_iff_ne_zero.2 fun e => hl ?_
      have : t.labels[idxL t.labels l] = t.labels[0] := by congr 1
      rw [← he, this, ht]
    have h2 := set_go hv h hq (k := idxL t.labels l - 1) (by omega)
    have h3 : labK t.labels (idxL t.labels l - 1) = l := by
      unfold labK
      rw [show idxL t.labels l - 1 + 1 = idxL t.labels l from by omega, List.getD_eq_getElem?_getD, List.getElem?_eq_getElem hk]
      exact he
    rw [h3] at h2
    rw [h2]
    congr 1
    omega
  · rw [if_neg hm]
    have hG := dok_good hv h
    refine setOf_neg ?_
    unfold goTo
    split
    · decide
    · have hfind : st.edges.find? (hitB (dSys t st) q l) = none := by
        refine find_none fun j hj => ?_
        unfold hitB
        rw [Bool.and_eq_false_iff]
        right
        rw [beq_eq_false_iff_ne]
        intro hb
        obtain ⟨h1, h2, -⟩ := lab_get hG (List.getElem_mem hj)
        have h4 : (labAt (dSys t st) st.edges[j]) = t.labels[st.edges[j].lab.toNat] := h2
        rw [h4] at hb
        exact hm (inT_mem.2 (toList_inj hb ▸ List.getElem_mem h1))
      show ((st.edges.find? _).map Edge.dst).getD (-1) < 0
      rw [hfind]
      decide
theorem labK_tau {L : List ByteArray} (hL : InOrd L) {k : Nat} (hk : k + 1 < L.length) : labK L k ≠ tauT := by
  intro e
  have h0 := hL.first
  obtain ⟨h1, h2⟩ := List.getElem?_eq_some_iff.1 h0
  have h3 := hL.asc
  rw [List.pairwise_map, List.pairwise_iff_getElem] at h3
  have h4 := h3 0 (k + 1) h1 hk (by omega)
  have h5 : L[k + 1] = tauT := by rw [← e]; unfold labK; rw [List.getD_eq_getElem?_getD, List.getElem?_eq_getElem hk]; rfl
  rw [h2, h5, lessL_irrefl] at h4
  cases h4
/-- Behind the trace of a word stand the sets of the states where the word leads. -/
theorem aft_word {a b : Lts} {sa sb : DNet} (ha : Valid a) (hb : Valid b) (hoa : DOk a sa) (hob : DOk b sb) {L : List ByteArray} (hL : InOrd L) : ∀ u, WOk (L.length - 1) u → aftL a (txtsOf L u) = setOf sa (difS (dSys a sa) (dSys b sb) L u).1 ∧ aftL b (txtsOf L u) = setOf sb (difS (dSys a sa) (dSys b sb) L u).2
  | [], _ => ⟨(set_first hoa).symm, (set_first hob).symm⟩
  | k :: u, hw => by
    have hk : k < L.length - 1 := hw k (by simp)
    obtain ⟨h1, h2⟩ := aft_word ha hb hoa hob hL u fun x hx => hw x (List.mem_cons_of_mem _ hx)
    have hr := difS_range (dSys_valid ha hoa) (dSys_valid hb hob) L u
    have ht := labK_tau hL (k := k) (by omega)
    rw [txtsOf_cons, aftL_snoc, aftL_snoc, h1, h2, difS_cons]
    exact ⟨(set_goL ha hoa hr.1.1 ht).symm, (set_goL hb hob hr.2.1 ht).symm⟩

/-- A stable state refuses the label. -/
def refuseB (t : Lts) (states : List Int) (l : ByteArray) : Bool := (stabs t states).any fun j => !inT (rdy t j) l
/-- The label leads on, and may be refused. -/
def sometimes (t : Lts) (states : List Int) (l : ByteArray) : Bool := decide (0 < (followL t states l).length) && refuseB t states l
def undetL (t : Lts) (states : List Int) : ByteArray := ((t.labels.drop 1).find? (sometimes t states)).getD ByteArray.empty
theorem undet_iff {t : Lts} (hv : Valid t) {states : List Int} : undetL t states ≠ ByteArray.empty ↔ ∃ k, k + 1 < t.labels.length ∧ sometimes t states (labK t.labels k) = true := by
  unfold undetL
  constructor
  · intro h
    cases hf : (t.labels.drop 1).find? (sometimes t states) with
    | none => rw [hf] at h; exact absurd rfl h
    | some s =>
      have h1 := List.mem_of_find?_eq_some hf
      have h2 := List.find?_some hf
      obtain ⟨k, hk, rfl⟩ := List.mem_iff_getElem.1 h1
      rw [List.length_drop] at hk
      refine ⟨k, by omega, ?_⟩
      have : labK t.labels k = (t.labels.drop 1)[k] := by
        have h9 : (t.labels.drop 1)[k] = t.labels[k + 1] := by
          rw [List.getElem_drop]
          congr 1
          omega
        rw [h9]
        unfold labK
        rw [List.getD_eq_getElem?_getD, List.getElem?_eq_getElem (by omega)]
        rfl
      rw [this]
      exact h2
  · rintro ⟨k, hk, hs⟩
    have hm : labK t.labels k ∈ t.labels.drop 1 := by
      unfold labK
      rw [List.getD_eq_getElem?_getD, List.getElem?_eq_getElem hk]
      refine List.mem_iff_getElem.2 ⟨k, by rw [List.length_drop]; omega, ?_⟩
      rw [List.getElem_drop]
      show t.labels[1 + k] = t.labels[k + 1]
      congr 1
      omega
    cases hf : (t.labels.drop 1).find? (sometimes t states) with
    | none =>
      rw [List.find?_eq_none] at hf
      exact absurd hs (hf _ hm)
    | some s =>
      have h1 := List.mem_of_find?_eq_some hf
      obtain ⟨j, hj, rfl⟩ := List.mem_iff_getElem.1 h1
      rw [List.length_drop] at hj
      simp only [Option.getD_some]
      intro e
      have h3 := hv.labels.label (1 + j) (by omega) (by omega)
      rw [List.getElem_drop] at e
      rw [e] at h3
      exact absurd h3 (by decide)
/-- Whether it is determinate; the trace, the label, the code. -/
def DetmIs (t : Lts) (r : Bool) (xs : List ByteArray) (s : ByteArray) (code : Int) : Prop :=
  (¬ Valid t ∧ r = false ∧ xs = [] ∧ s = ByteArray.empty ∧ code = 1) ∨ (Valid t ∧ DFull t ∧ r = false ∧ xs = [] ∧ s = ByteArray.empty ∧ code = 5)
    ∨ (Valid t ∧ ∃ st, DOk t st ∧ code = 0 ∧ ((NoWord ((0 : Int), (0 : Int)) (goBoth (dSys t st) (dSys t st) t.labels) (t.labels.length - 1) (liveF fun p => undetL t (setOf st p.1) ≠ ByteArray.empty) ∧ r = true ∧ xs = [] ∧ s = ByteArray.empty)
      ∨ ∃ u, Least ((0 : Int), (0 : Int)) (goBoth (dSys t st) (dSys t st) t.labels) (t.labels.length - 1) (liveF fun p => undetL t (setOf st p.1) ≠ ByteArray.empty) u ∧ r = false ∧ xs = txtsOf t.labels u ∧ s = undetL t (setOf st (difS (dSys t st) (dSys t st) t.labels u).1)))
theorem DetmIs.unique {t : Lts} {r r' : Bool} {xs xs' : List ByteArray} {s s' : ByteArray} {code code' : Int} (h : DetmIs t r xs s code) (k : DetmIs t r' xs' s' code') : r = r' ∧ xs = xs' ∧ s = s' ∧ code = code' := by
  rcases h with ⟨h1, h2, h3, h4, h5⟩ | ⟨h1, h2, h3, h4, h5, h6⟩ | ⟨h1, st, h2, h4, h3⟩ <;> rcases k with ⟨k1, k2, k3, k4, k5⟩ | ⟨k1, k2, k3, k4, k5, k6⟩ | ⟨k1, st', k2, k4, k3⟩ <;>
    first
    | exact absurd k1 h1
    | exact absurd h1 k1
    | exact ⟨h2.trans k2.symm, h3.trans k3.symm, h4.trans k4.symm, h5.trans k5.symm⟩
    | exact ⟨h3.trans k3.symm, h4.trans k4.symm, h5.trans k5.symm, h6.trans k6.symm⟩
    | exact absurd k2 h2.not_full
    | exact absurd h2 k2.not_full
    | skip
  have e := h2.1.unique k2.1
  subst e
  rcases h3 with ⟨a1, a2, a3, a4⟩ | ⟨u, a1, a2, a3, a4⟩ <;> rcases k3 with ⟨b1, b2, b3, b4⟩ | ⟨u', b1, b2, b3, b4⟩
  · exact ⟨a2.trans b2.symm, a3.trans b3.symm, a4.trans b4.symm, h4.trans k4.symm⟩
  · exact (b1.some a1).elim
  · exact (a1.some b1).elim
  · have := a1.unique b1
    subst this
    exact ⟨a2.trans b2.symm, a3.trans b3.symm, a4.trans b4.symm, h4.trans k4.symm⟩

end Go.Proofs.YtpoleaekcjjedaaGreatDoor

namespace Go.Proofs.YtpoleaekcjjedaaGreatDoor
open Go Go.RowKit

/-- The offer of a state after j edges. -/
def offTo (t : Lts) (k : Int) : Nat → List ByteArray
  | 0 => []
  | j + 1 => if h : j < t.edges.length then (if ((t.edges[j].src == k) && decide (0 < t.edges[j].lab)) && decide (textAt (offTo t k j) (labAt t t.edges[j]) < 0) then offTo t k j ++ [labAt t t.edges[j]] else offTo t k j) else offTo t k j
def offS (t : Lts) (k : Int) : List ByteArray := offTo t k t.edges.length
theorem offTo_succ {t : Lts} {k : Int} {j : Nat} (h : j < t.edges.length) : offTo t k (j + 1) = if ((t.edges[j].src == k) && decide (0 < t.edges[j].lab)) && decide (textAt (offTo t k j) (labAt t t.edges[j]) < 0) then offTo t k j ++ [labAt t t.edges[j]] else offTo t k j := by rw [offTo, dif_pos h]
theorem offTo_len (t : Lts) (k : Int) : ∀ j, (offTo t k j).length ≤ j
  | 0 => Nat.le_refl _
  | j + 1 => by
    have h := offTo_len t k j
    rw [offTo]
    split
    · split
      · rw [List.length_append]; exact Nat.succ_le_succ h
      · omega
    · omega
theorem textAt_inT {ss : List ByteArray} {s : ByteArray} : decide (textAt ss s < 0) = !inT ss s := by
  have h := textAt_neg (ss := ss) (s := s)
  unfold inT
  cases h2 : ss.any fun t => t.toList == s.toList
  · rw [Bool.not_false, decide_eq_true_eq]; exact h.2 h2
  · rw [Bool.not_true, decide_eq_false_iff_not]
    intro h3
    rw [h.1 h3] at h2
    cases h2
theorem offTo_mem (t : Lts) (k : Int) (s : ByteArray) : ∀ j, s ∈ offTo t k j ↔ ∃ e ∈ t.edges.take j, e.src = k ∧ 0 < e.lab ∧ labAt t e = s
  | 0 => by simp [offTo]
  | j + 1 => by
    have ih := offTo_mem t k s j
    rw [offTo]
    split
    · next h =>
      rw [List.take_succ_eq_append_getElem h]
      have hsplit : (∃ e ∈ t.edges.take j ++ [t.edges[j]], e.src = k ∧ 0 < e.lab ∧ labAt t e = s) ↔ (∃ e ∈ t.edges.take j, e.src = k ∧ 0 < e.lab ∧ labAt t e = s) ∨ (t.edges[j].src = k ∧ 0 < t.edges[j].lab ∧ labAt t t.edges[j] = s) := by
        constructor
        · rintro ⟨e, he, r⟩
          rcases List.mem_append.1 he with he | he
          · exact .inl ⟨e, he, r⟩
          · rw [List.mem_singleton] at he; subst he; exact .inr r
        · rintro (⟨e, he, r⟩ | r)
          · exact ⟨e, List.mem_append.2 (.inl he), r⟩
          · exact ⟨_, List.mem_append.2 (.inr (List.mem_singleton.2 rfl)), r⟩
      rw [hsplit, ← ih]
      by_cases h1 : t.edges[j].src = k ∧ 0 < t.edges[j].lab
      · have e1 : ((t.edges[j].src == k) && decide (0 < t.edges[j].lab)) = true := by rw [Bool.and_eq_true, beq_iff_eq, decide_eq_true_eq]; exact h1
        rw [e1, Bool.true_and, textAt_inT]
        cases h2 : inT (offTo t k j) (labAt t t.edges[j])
        · simp only [Bool.not_false, if_true, List.mem_append, List.mem_singleton]
          constructor
          · rintro (h | h)
            · exact .inl h
            · exact .inr ⟨h1.1, h1.2, h.symm⟩
          · rintro (h | h)
            · exact .inl h
            · exact .inr h.2.2.symm
        · simp only [Bool.not_true, Bool.false_eq_true, if_false]
          constructor
          · exact .inl
          · rintro (h | h)
            · exact h
            · rw [← h.2.2]; exact inT_mem.1 h2
      · have e1 : ((t.edges[j].src == k) && decide (0 < t.edges[j].lab)) = false := by
          rw [Bool.eq_false_iff]
          intro h
          rw [Bool.and_eq_true, beq_iff_eq, decide_eq_true_eq] at h
          exact h1 h
        rw [e1, Bool.false_and]
        simp only [Bool.false_eq_true, if_false]
        exact ⟨.inl, fun h => h.elim id fun h => absurd ⟨h.1, h.2.1⟩ h1⟩
    · next h => rw [List.take_of_length_le (by omega)]; rw [List.take_of_length_le (by omega)] at ih; exact ih
theorem offS_mem (t : Lts) (k : Int) (s : ByteArray) : s ∈ offS t k ↔ s ∈ vis t k := by
  unfold offS vis
  rw [offTo_mem, List.take_length, (labSet_is _).2, List.mem_map]
  unfold outOf
  constructor
  · rintro ⟨e, he, h1, h2, h3⟩
    exact ⟨e, List.mem_filter.2 ⟨List.mem_filter.2 ⟨he, by simpa using h1⟩, by simpa using h2⟩, h3⟩
  · rintro ⟨e, he, h3⟩
    obtain ⟨h4, h2⟩ := List.mem_filter.1 he
    obtain ⟨h5, h1⟩ := List.mem_filter.1 h4
    exact ⟨e, h5, by simpa using h1, by simpa using h2, h3⟩
theorem off_rdy {t : Lts} (hv : Valid t) {k : Int} (h : stableB t k = true) (s : ByteArray) : inT (offS t k) s = inT (rdy t k) s := by
  rw [← vis_stable hv h]
  exact inT_congr (fun x => offS_mem t k x) s
/-- The offers of the stable ones among states. -/
def offersS (t : Lts) (S : List Int) : List (List ByteArray) := (stabs t S).map (offS t)
theorem refuse_off {t : Lts} (hv : Valid t) (S : List Int) (l : ByteArray) : ((offersS t S).any fun o => !inT o l) = refuseB t S l := by
  unfold offersS refuseB
  rw [List.any_map]
  have h : ∀ j ∈ stabs t S, (!inT (offS t j) l) = !inT (rdy t j) l := fun j hj => by rw [off_rdy hv (List.mem_filter.1 hj).2]
  generalize stabs t S = xs at h
  induction xs with
  | nil => rfl
  | cons a r ih =>
    rw [List.any_cons, List.any_cons, ih fun j hj => h j (List.mem_cons_of_mem _ hj)]
    congr 1
    exact h a (by simp)

/-- One list more. -/
theorem ownStrss_push {lo B : Nat} {w0 w w' : World} {v v' rv : Value} {vs : List Value} {xss : List (List ByteArray)} {ys : List ByteArray} (h : OwnStrss lo w0 v vs xss) (hB : w0.heap.size ≤ B) (hb : Below w0.heap.size w0 w) (hr : w.ownsRow B 9 1 rv ys.length (txts ys)) (hlo : lo ≤ B)
    (hg : w.grownBy w' v.ownBlock) (ho : w'.ownsRow lo 22 1 v' (vs.length + 1) (vs ++ [rv])) : OwnStrss lo w' v' (vs ++ [rv]) (xss ++ [ys]) := by
  have h1 := h.rows.push hB hb (by rw [txts_len]; exact hr) hlo
  have h2 := h1.other (by decide) (owns_below h.out hb) hg
  refine ⟨by rw [List.length_append, List.length_singleton]; exact ho, ?_⟩
  rw [List.map_append, List.map_singleton]
  exact h2

end Go.Proofs.YtpoleaekcjjedaaGreatDoor
