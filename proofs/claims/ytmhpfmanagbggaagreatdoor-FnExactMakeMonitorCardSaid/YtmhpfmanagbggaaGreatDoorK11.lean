/-
  The search over pairs of a set of states and a state of a property, found row for row. Plain.
  How the explorer of pairs lies in the program's memory; keys of pairs.
  The program's key of a monitor's state.
  Lists in different blocks; a monitor's box filled.
-/
import Derived.Test.YtmhpfmanagbggaaGreatDoorK10
import Derived.Test.YtmhpfmanagbggaaGreatDoorK7
import Derived.Test.YtmhpfmanagbggaaGreatDoorK9
namespace Go.Proofs.YtmhpfmanagbggaaGreatDoor
open Go Go.RowKit

abbrev WSt := List Int × Int
/-- A search: where it begins, what follows a row by a label's number, how many labels. -/
structure WJob where
 first : WSt
 nx : WSt → Nat → Option WSt
 m : Nat
structure WNet where
 rows : List WSt
 edges : List Edge
def pwplace (rows : List WSt) (r : WSt) : Nat := rows.findIdx fun q => q == r
def pwadd (rows : List WSt) (r : WSt) : List WSt := if pwplace rows r < rows.length then rows else rows ++ [r]
/-- One label (its number k) of the row number i. -/
def pwstep (G : WJob) (i : Nat) (cur : WSt) (st : WNet) (k : Nat) : WNet :=
 match G.nx cur k with
 | none => st
 | some r => ⟨pwadd st.rows r, st.edges ++ [⟨(i : Int), (k : Int) + 1, (pwplace st.rows r : Int)⟩]⟩
/-- The first j labels behind tau. -/
def pwmid (G : WJob) (i : Nat) (cur : WSt) (st : WNet) (j : Nat) : WNet := (List.range j).foldl (pwstep G i cur) st
def pwrow (G : WJob) (i : Nat) (st : WNet) : WNet :=
 match st.rows[i]? with
 | none => st
 | some cur => pwmid G i cur st G.m
def pwAt (G : WJob) : Nat → WNet
 | 0 => ⟨[G.first], []⟩
 | n + 1 => pwrow G n (pwAt G n)
def WCome (G : WJob) (n : Nat) : Prop := ∀ k, k < n → k < (pwAt G k).rows.length
def WFound (G : WJob) (st : WNet) : Prop := ∃ n, WCome G n ∧ pwAt G n = st ∧ st.rows.length = n
def WSmall (st : WNet) : Prop := st.rows.length ≤ 40 ∧ st.edges.length ≤ 300
def PWOk (G : WJob) (st : WNet) : Prop := WFound G st ∧ WSmall st
/-- Somewhere on the way the net is too large. -/
def WFull (G : WJob) : Prop := ∃ n j cur, WCome G n ∧ (pwAt G n).rows[n]? = some cur ∧ j ≤ G.m ∧ ¬ WSmall (pwmid G n cur (pwAt G n) j)

/-- A net within another one. -/
structure WLe (a b : WNet) : Prop where
 rows : ∃ r, b.rows = a.rows ++ r
 edges : ∃ r, b.edges = a.edges ++ r
theorem WLe.refl (a : WNet) : WLe a a := ⟨⟨[], by simp⟩, ⟨[], by simp⟩⟩
theorem WLe.trans {a b c : WNet} (h : WLe a b) (k : WLe b c) : WLe a c := by
 obtain ⟨⟨r, h1⟩, ⟨s, h2⟩⟩ := h
 obtain ⟨⟨u, h3⟩, ⟨v, h4⟩⟩ := k
 exact ⟨⟨r ++ u, by rw [h3, h1, List.append_assoc]⟩, ⟨s ++ v, by rw [h4, h2, List.append_assoc]⟩⟩
theorem WLe.small {a b : WNet} (h : WLe a b) (hb : WSmall b) : WSmall a := by
 obtain ⟨⟨r, h1⟩, ⟨s, h2⟩⟩ := h
 unfold WSmall at *
 rw [h1, h2, List.length_append, List.length_append] at hb
 omega
theorem pwstep_none {G : WJob} {i : Nat} {cur : WSt} {st : WNet} {k : Nat} (h : G.nx cur k = none) : pwstep G i cur st k = st := by unfold pwstep; rw [h]
theorem pwstep_some {G : WJob} {i : Nat} {cur : WSt} {st : WNet} {k : Nat} {r : WSt} (h : G.nx cur k = some r) : pwstep G i cur st k = ⟨pwadd st.rows r, st.edges ++ [⟨(i : Int), (k : Int) + 1, (pwplace st.rows r : Int)⟩]⟩ := by unfold pwstep; rw [h]
theorem pwadd_prefix (rows : List WSt) (r : WSt) : ∃ u, pwadd rows r = rows ++ u := by
 unfold pwadd
 split
 ·exact ⟨[], by simp⟩
 ·exact ⟨_, rfl⟩
theorem pwstep_le (G : WJob) (i : Nat) (cur : WSt) (st : WNet) (k : Nat) : WLe st (pwstep G i cur st k) := by
 cases h : G.nx cur k with
 | none => rw [pwstep_none h]; exact WLe.refl st
 | some r => rw [pwstep_some h]; exact ⟨pwadd_prefix _ _, ⟨_, rfl⟩⟩
theorem pwmid_zero (G : WJob) (i : Nat) (cur : WSt) (st : WNet) : pwmid G i cur st 0 = st := rfl
theorem pwmid_succ (G : WJob) (i : Nat) (cur : WSt) (st : WNet) (j : Nat) : pwmid G i cur st (j + 1) = pwstep G i cur (pwmid G i cur st j) j := by
 unfold pwmid
 rw [List.range_succ, List.foldl_append]
 rfl
theorem pwmid_le (G : WJob) (i : Nat) (cur : WSt) (st : WNet) (j : Nat) : ∀ d, WLe (pwmid G i cur st j) (pwmid G i cur st (j + d))
 | 0 => WLe.refl _
 | d + 1 => by
  rw [← Nat.add_assoc, pwmid_succ]
  exact (pwmid_le G i cur st j d).trans (pwstep_le G i cur _ _)
theorem pwmid_none {G : WJob} {i : Nat} {cur : WSt} {st : WNet} (h : ∀ k, G.nx cur k = none) : ∀ j, pwmid G i cur st j = st
 | 0 => pwmid_zero ..
 | j + 1 => by rw [pwmid_succ, pwmid_none h j, pwstep_none (h j)]
theorem pwrow_le (G : WJob) (i : Nat) (st : WNet) : WLe st (pwrow G i st) := by
 unfold pwrow
 split
 ·exact WLe.refl st
 ·next cur _ =>
  have := pwmid_le G i cur st 0 G.m
  rw [Nat.zero_add] at this
  exact this
theorem pwAt_le (G : WJob) (n : Nat) : ∀ d, WLe (pwAt G n) (pwAt G (n + d))
 | 0 => WLe.refl _
 | d + 1 => by
  rw [← Nat.add_assoc]
  exact (pwAt_le G n d).trans (pwrow_le G _ _)
theorem WFound.unique {G : WJob} {a b : WNet} (ha : WFound G a) (hb : WFound G b) : a = b := by
 obtain ⟨m, hm, em, lm⟩ := ha
 obtain ⟨n, hn, en, ln⟩ := hb
 rcases Nat.lt_trichotomy m n with h | h | h
 ·have := hn m h
  rw [em] at this
  omega
 ·subst h
  exact em.symm.trans en
 ·have := hm n h
  rw [en] at this
  omega
theorem pwAt_succ {G : WJob} {n : Nat} {cur : WSt} (hcur : (pwAt G n).rows[n]? = some cur) : pwAt G (n + 1) = pwmid G n cur (pwAt G n) G.m := by
 rw [pwAt]
 unfold pwrow
 rw [hcur]
theorem PWOk.not_full {G : WJob} {st : WNet} (h : PWOk G st) : ¬ WFull G := by
 rintro ⟨n, j, cur, hc, hcur, hj, hs⟩
 obtain ⟨⟨m, hm, em, lm⟩, hsm⟩ := h
 have hn := (List.getElem?_eq_some_iff.1 hcur).1
 rcases Nat.lt_or_ge n m with hlt | hge
 ·refine hs (WLe.small ?_ hsm)
  have h1 := pwmid_le G n cur (pwAt G n) j (G.m - j)
  rw [show j + (G.m - j) = G.m from by omega] at h1
  rw [← pwAt_succ hcur] at h1
  have h3 := pwAt_le G (n + 1) (m - (n + 1))
  rw [show n + 1 + (m - (n + 1)) = m from by omega, em] at h3
  exact h1.trans h3
 ·rcases Nat.lt_or_ge m n with h2 | h2
  ·have := hc m h2
   rw [em] at this
   omega
  ·obtain rfl : n = m := by omega
   rw [em] at hn
   omega
theorem WCome.succ {G : WJob} {n : Nat} (h : WCome G n) (hn : n < (pwAt G n).rows.length) : WCome G (n + 1) := by
 intro k hk
 by_cases e : k = n
 ·subst e; exact hn
 ·exact h k (by omega)
theorem WCome.zero (G : WJob) : WCome G 0 := fun k h => by omega
theorem WCome.len {G : WJob} {n : Nat} (hc : WCome G n) : n ≤ (pwAt G n).rows.length := by
 cases n with
 | zero => omega
 | succ m =>
  have h2 := hc m (by omega)
  obtain ⟨⟨r, hr⟩, -⟩ := pwAt_le G m 1
  rw [hr, List.length_append]
  omega
theorem PWOk.done {G : WJob} {n : Nat} (hc : WCome G n) (hs : WSmall (pwAt G n)) (hn : ¬ n < (pwAt G n).rows.length) : PWOk G (pwAt G n) := by
 refine ⟨⟨n, hc, rfl, ?_⟩, hs⟩
 have := hc.len
 omega
theorem pwfound_full {G : WJob} {st : WNet} (h : WFound G st) (h0 : 0 < st.rows.length) (hs : ¬ WSmall st) : WFull G := by
 obtain ⟨n, hc, rfl, hl⟩ := h
 obtain ⟨m, rfl⟩ : ∃ m, n = m + 1 := ⟨n - 1, by omega⟩
 have hm := hc m (by omega)
 refine ⟨m, G.m, (pwAt G m).rows[m], fun k hk => hc k (by omega), List.getElem?_eq_getElem hm, Nat.le_refl _, ?_⟩
 rw [← pwAt_succ (List.getElem?_eq_getElem hm)]
 exact hs

theorem pwplace_lt {rows : List WSt} {q : WSt} : pwplace rows q < rows.length ↔ q ∈ rows := by
 unfold pwplace
 rw [List.findIdx_lt_length]
 constructor
 ·rintro ⟨x, hx, h⟩
  rw [← eq_of_beq h]
  exact hx
 ·exact fun h => ⟨q, h, by simp⟩
theorem pwplace_get {rows : List WSt} {q : WSt} (h : pwplace rows q < rows.length) : rows[pwplace rows q] = q := by
 have := List.findIdx_getElem (p := fun q' => q' == q) (xs := rows) (w := h)
 exact eq_of_beq this
theorem pwplace_le (rows : List WSt) (q : WSt) : pwplace rows q ≤ rows.length := by unfold pwplace; exact List.findIdx_le_length
theorem pwplace_eq {rows : List WSt} {r : WSt} {m : Nat} (hn : rows.Nodup) (hm : m < rows.length) (h : rows[m] = r) : pwplace rows r = m := by
 have hlt : pwplace rows r < rows.length := pwplace_lt.2 (h ▸ List.getElem_mem hm)
 exact (List.getElem_inj hn).1 ((pwplace_get hlt).trans h.symm)
theorem pwadd_old {rows : List WSt} {r : WSt} (h : r ∈ rows) : pwadd rows r = rows := by unfold pwadd; rw [if_pos (pwplace_lt.2 h)]
theorem pwadd_new {rows : List WSt} {r : WSt} (h : r ∉ rows) : pwadd rows r = rows ++ [r] ∧ pwplace rows r = rows.length := by
 have h1 : ¬ pwplace rows r < rows.length := fun k => h (pwplace_lt.1 k)
 refine ⟨by unfold pwadd; rw [if_neg h1], ?_⟩
 have := pwplace_le rows r
 omega
theorem pwadd_nodup {rows : List WSt} {r : WSt} (h : rows.Nodup) : (pwadd rows r).Nodup := by
 by_cases hr : r ∈ rows
 ·rw [pwadd_old hr]; exact h
 ·rw [(pwadd_new hr).1, List.nodup_append]
  refine ⟨h, by simp, ?_⟩
  intro a ha b hb e
  rw [List.mem_singleton] at hb
  subst hb
  subst e
  exact hr ha
theorem pwadd_len (rows : List WSt) (r : WSt) : rows.length ≤ (pwadd rows r).length ∧ pwplace rows r < (pwadd rows r).length ∧ (pwadd rows r).length ≤ rows.length + 1 := by
 by_cases hr : r ∈ rows
 ·rw [pwadd_old hr]; have := pwplace_lt.2 hr; omega
 ·rw [(pwadd_new hr).1, (pwadd_new hr).2]; simp
theorem mem_pwadd {rows : List WSt} {r q : WSt} (h : q ∈ pwadd rows r) : q ∈ rows ∨ q = r := by
 by_cases hr : r ∈ rows
 ·rw [pwadd_old hr] at h; exact .inl h
 ·rw [(pwadd_new hr).1] at h
  rcases List.mem_append.1 h with h | h
  ·exact .inl h
  ·exact .inr (by simpa using h)

/-- What holds of the net at each point: all rows have Q. -/
structure WGood (G : WJob) (Q : WSt → Prop) (st : WNet) : Prop where
 nodup : st.rows.Nodup
 some : 0 < st.rows.length
 rows : ∀ r ∈ st.rows, Q r
 edges : ∀ e ∈ st.edges, (0 ≤ e.src ∧ e.src < st.rows.length) ∧ (1 ≤ e.lab ∧ e.lab < (G.m : Int) + 1) ∧ 0 ≤ e.dst ∧ e.dst < st.rows.length
/-- The job keeps Q. -/
structure WKeep (G : WJob) (Q : WSt → Prop) : Prop where
 first : Q G.first
 next : ∀ cur k r, Q cur → k < G.m → G.nx cur k = some r → Q r
theorem WGood.step {G : WJob} {Q : WSt → Prop} (hk : WKeep G Q) {st : WNet} (h : WGood G Q st) {i : Nat} (hi : i < st.rows.length) {cur : WSt} (hc : Q cur) {k : Nat} (hkm : k < G.m) : WGood G Q (pwstep G i cur st k) := by
 cases hn : G.nx cur k with
 | none => rw [pwstep_none hn]; exact h
 | some r =>
  rw [pwstep_some hn]
  have hl := pwadd_len st.rows r
  refine ⟨pwadd_nodup h.nodup, ?_, ?_, ?_⟩
  ·show 0 < (pwadd st.rows r).length
   have := h.some
   omega
  ·intro q hq
   rcases mem_pwadd hq with hq | rfl
   ·exact h.rows q hq
   ·exact hk.next cur k _ hc hkm hn
  ·intro e he
   rcases List.mem_append.1 he with he | he
   ·have := h.edges e he
    exact ⟨⟨this.1.1, by have := this.1.2; show e.src < (((pwadd st.rows r).length : Nat) : Int); omega⟩, this.2.1, this.2.2.1, by have := this.2.2.2; show e.dst < (((pwadd st.rows r).length : Nat) : Int); omega⟩
   ·rw [List.mem_singleton] at he
    subst he
    refine ⟨⟨by simp, ?_⟩, ⟨by show (1 : Int) ≤ (k : Int) + 1; omega, ?_⟩, by simp, ?_⟩
    ·show (i : Int) < (((pwadd st.rows r).length : Nat) : Int)
     omega
    ·show (k : Int) + 1 < (G.m : Int) + 1
     omega
    ·show ((pwplace st.rows r : Nat) : Int) < (((pwadd st.rows r).length : Nat) : Int)
     omega
theorem pwmid_rowAt {G : WJob} {n : Nat} {cur : WSt} {st : WNet} (h : st.rows[n]? = some cur) (j : Nat) : (pwmid G n cur st j).rows[n]? = some cur := by
 obtain ⟨⟨r, hr⟩, -⟩ := pwmid_le G n cur st 0 j
 rw [Nat.zero_add, pwmid_zero] at hr
 rw [hr, List.getElem?_append_left (List.getElem?_eq_some_iff.1 h).1]
 exact h
theorem WGood.mid {G : WJob} {Q : WSt → Prop} (hk : WKeep G Q) {st : WNet} (h : WGood G Q st) {i : Nat} {cur : WSt} (hcur : st.rows[i]? = Option.some cur) : ∀ j, j ≤ G.m → WGood G Q (pwmid G i cur st j)
 | 0, _ => by rw [pwmid_zero]; exact h
 | j + 1, hj => by
  rw [pwmid_succ]
  exact (WGood.mid hk h hcur j (by omega)).step hk (List.getElem?_eq_some_iff.1 (pwmid_rowAt hcur j)).1 (h.rows cur (List.mem_of_getElem? hcur)) (by omega)
theorem WGood.at {G : WJob} {Q : WSt → Prop} (hk : WKeep G Q) : ∀ n, WGood G Q (pwAt G n)
 | 0 => ⟨by simp [pwAt], by simp [pwAt], fun r hr => by
   have : r = G.first := by simpa [pwAt] using hr
   subst this
   exact hk.first, by simp [pwAt]⟩
 | n + 1 => by
  rw [pwAt]
  unfold pwrow
  split
  ·exact WGood.at hk n
  ·next cur hc => exact (WGood.at hk n).mid hk hc _ (Nat.le_refl _)
theorem pwmid_few (G : WJob) (i : Nat) (cur : WSt) (st : WNet) : ∀ j, (pwmid G i cur st j).rows.length ≤ st.rows.length + j ∧ (pwmid G i cur st j).edges.length ≤ st.edges.length + j
 | 0 => by rw [pwmid_zero]; omega
 | j + 1 => by
  have h := pwmid_few G i cur st j
  rw [pwmid_succ]
  cases hn : G.nx cur j with
  | none => rw [pwstep_none hn]; omega
  | some r =>
   rw [pwstep_some hn]
   have := pwadd_len (pwmid G i cur st j).rows r
   constructor
   ·show (pwadd _ _).length ≤ _
    omega
   ·show ((pwmid G i cur st j).edges ++ [_]).length ≤ _
    rw [List.length_append, List.length_singleton]; omega
theorem pwAt_few {G : WJob} (h : G.m ≤ 11) : ∀ n, (pwAt G n).edges.length ≤ 11 * n
 | 0 => by simp [pwAt]
 | n + 1 => by
  have h1 := pwAt_few h n
  rw [pwAt]
  unfold pwrow
  split
  ·omega
  ·next cur _ =>
   have := (pwmid_few G n cur (pwAt G n) G.m).2
   omega
theorem wUp_step {G : WJob} {i k : Nat} {cur : WSt} {st : WNet} (h : EdgesUp i k st.edges) : EdgesUp i ((k : Int) + 1) (pwstep G i cur st k).edges := by
 cases hn : G.nx cur k with
 | none => rw [pwstep_none hn]; exact ⟨h.1, fun e he => by rcases h.2 e he with h | h <;> omega⟩
 | some r =>
  rw [pwstep_some hn]
  refine ⟨?_, fun e he => ?_⟩
  ·show (st.edges ++ [_]).Pairwise _
   rw [List.pairwise_append]
   refine ⟨h.1, by simp, fun a ha b hb => ?_⟩
   rw [List.mem_singleton] at hb
   subst hb
   rcases h.2 a ha with h | h
   ·exact .inl h
   ·exact .inr ⟨h.1, by show a.lab < (k : Int) + 1; omega⟩
  ·rcases List.mem_append.1 he with he | he
   ·rcases h.2 e he with h | h <;> omega
   ·rw [List.mem_singleton] at he
    subst he
    exact .inr ⟨rfl, Int.le_refl _⟩
theorem wUp_mid {G : WJob} {i : Nat} {cur : WSt} {st : WNet} (h : EdgesUp i 0 st.edges) : ∀ j : Nat, EdgesUp i j (pwmid G i cur st j).edges
 | 0 => by rw [pwmid_zero]; exact h
 | j + 1 => by
  rw [pwmid_succ]
  exact wUp_step (wUp_mid h j)
theorem wUp_at (G : WJob) : ∀ n : Nat, EdgesUp n 0 (pwAt G n).edges
 | 0 => ⟨by simp [pwAt], by simp [pwAt]⟩
 | n + 1 => by
  have h := wUp_at G n
  rw [pwAt]
  unfold pwrow
  split
  ·exact ⟨h.1, fun e he => by rcases h.2 e he with h | h <;> omega⟩
  ·have h2 := wUp_mid (G := G) (cur := by assumption) h G.m
   exact ⟨h2.1, fun e he => by rcases h2.2 e he with h | h <;> omega⟩

/-- The place found among the first m rows, or -1. -/
def pwseen (rows : List WSt) (r : WSt) (m : Nat) : Int := if pwplace rows r < m then (pwplace rows r : Int) else -1
theorem pwseen_zero (rows : List WSt) (r : WSt) : pwseen rows r 0 = -1 := by unfold pwseen; rw [if_neg (by omega)]
theorem pwseen_hit {rows : List WSt} {r : WSt} {m : Nat} (hn : rows.Nodup) (hm : m < rows.length) (h : rows[m] = r) : pwseen rows r (m + 1) = m := by
 have := pwplace_eq hn hm h
 unfold pwseen
 rw [this, if_pos (by omega)]
theorem pwseen_miss {rows : List WSt} {r : WSt} {m : Nat} (hm : m < rows.length) (h : rows[m] ≠ r) : pwseen rows r (m + 1) = pwseen rows r m := by
 have hne : pwplace rows r ≠ m := by
  intro e
  subst e
  exact h (pwplace_get hm)
 unfold pwseen
 by_cases h1 : pwplace rows r < m
 ·rw [if_pos h1, if_pos (by omega)]
 ·rw [if_neg h1, if_neg (by omega)]
theorem WFull.step {G : WJob} {n j : Nat} {cur : WSt} (hc : WCome G n) (hcur : (pwAt G n).rows[n]? = some cur) (hj : j ≤ G.m) (h : ¬ WSmall (pwmid G n cur (pwAt G n) j)) : WFull G := ⟨n, j, cur, hc, hcur, hj, h⟩

/-! ### the net as a net of one-state sets over forty states -/
def wT (t : Lts) : Lts := ⟨40, 0, t.labels, []⟩
def wNet (st : WNet) : DNet := ⟨(List.range st.rows.length).map fun (i : Nat) => [(i : Int)], st.edges⟩
theorem wT_valid {t : Lts} (hv : Valid t) : Valid (wT t) := ⟨by show (1 : Int) ≤ 40; decide, by show (40 : Int) ≤ 40; decide, Int.le_refl 0, by show (0 : Int) < 40; decide, hv.labels, by show (0 : Nat) ≤ 300; decide, fun i hi => by simp [wT] at hi, fun i hi => by simp [wT] at hi⟩
theorem wNet_len (st : WNet) : (wNet st).rows.length = st.rows.length := by unfold wNet; simp
theorem wNet_good {t : Lts} {G : WJob} {Q : WSt → Prop} {st : WNet} (h : WGood G Q st) (hm : G.m = t.labels.length - 1) (hl : 0 < t.labels.length) (h40 : st.rows.length ≤ 40) : DGood (wT t) (wNet st) := by
 refine ⟨?_, by rw [wNet_len]; exact h.some, ?_, ?_⟩
 ·show ((List.range st.rows.length).map _).Nodup
  rw [List.nodup_iff_pairwise_ne, List.pairwise_map]
  refine List.Pairwise.imp ?_ (List.pairwise_lt_range (n := st.rows.length))
  intro a b hab e
  simp at e
  omega
 ·intro r hr
  obtain ⟨i, hi, rfl⟩ := List.mem_map.1 hr
  have := List.mem_range.1 hi
  exact ⟨fun x hx => by rw [List.mem_singleton] at hx; subst hx; exact ⟨by omega, by show (i : Int) < 40; omega⟩, List.pairwise_singleton _ _, by simp⟩
 ·intro e he
  have h1 := h.edges e he
  rw [wNet_len]
  refine ⟨h1.1, ⟨h1.2.1.1, ?_⟩, h1.2.2⟩
  have := h1.2.1.2
  show e.lab < (t.labels.length : Int)
  omega
theorem wNet_small (st : WNet) : DSmall (wNet st) ↔ WSmall st := by unfold DSmall WSmall; rw [wNet_len]; exact Iff.rfl

end Go.Proofs.YtmhpfmanagbggaaGreatDoor

namespace Go.Proofs.YtmhpfmanagbggaaGreatDoor
open Go Go.RowKit

/-- A pair that can be a row. -/
structure WRok (r : WSt) : Prop where
 row : RowOk r.1
 y0 : -1 ≤ r.2
 y1 : r.2 < 40
def keyP (r : WSt) : Value := .string (keyW r.1 r.2)
theorem WRok.size {r : WSt} (h : WRok r) : (keyW r.1 r.2).size ≤ 1048576 := by
 have h1 := keyT_len h.row.i64
 have h2 := h.row.len
 have h3 := Lib.itoa_length_le r.2 (by have := h.y0; omega) (by have := h.y1; omega)
 unfold keyW
 generalize Lib.join ((wordsOf r.1).map (·.data.toList)) [44] = a at h1
 generalize Lib.itoa r.2 = c at h3
 show (Lib.join [a, c] [32]).toArray.size ≤ 1048576
 rw [List.size_toArray]
 simp [Lib.join]
 omega
theorem WRok.key {r : WSt} (h : WRok r) : ∃ l, keyOf Tryz.prog 9 (keyP r) = some l := keyOfS _ h.size
theorem WRok.inj {a b : WSt} (ha : WRok a) (hb : WRok b) (h : keyP a = keyP b) : a = b := by
 obtain ⟨a1, a2⟩ := a
 obtain ⟨b1, b2⟩ := b
 have := keyW_inj ha.row.ne hb.row.ne (fun x hx => (ha.row.low x hx).1) (fun x hx => (hb.row.low x hx).1) ha.y0 hb.y0 (by unfold keyP at h; exact Value.string.inj h)
 rw [show a1 = b1 from this.1, show a2 = b2 from this.2]
theorem keysP_nodup {rows : List WSt} (hd : rows.Nodup) (ho : ∀ r ∈ rows, WRok r) : (rows.map keyP).Nodup := by
 rw [List.nodup_iff_pairwise_ne, List.pairwise_map]
 refine List.Pairwise.imp_of_mem ?_ (List.nodup_iff_pairwise_ne.1 hd)
 intro a b ha hb hne e
 exact hne ((ho a ha).inj (ho b hb) e)

theorem info_watched : (Tryz.prog.info? 78).map (fun i => (i.zero, i.size, i.bytes)) = some (some (.agg #[.slice none 0 0, .int .i64 0]), 2, 32) := by kernel_rfl

/-- The cells of pairs. -/
def cellsW (vs : List Value) (rows : List WSt) : List Value := (vs.zip rows).flatMap fun q => [q.1, .int .i64 q.2.2]
theorem cellsW_push {vs : List Value} {rows : List WSt} (h : vs.length = rows.length) (rv : Value) (r : WSt) : cellsW (vs ++ [rv]) (rows ++ [r]) = cellsW vs rows ++ [rv, .int .i64 r.2] := by
 unfold cellsW
 rw [List.zip_append h, List.flatMap_append]
 rfl
theorem cellsW_get : ∀ {vs : List Value} {rows : List WSt} {n : Nat} (h : n < vs.length) (h' : n < rows.length), (cellsW vs rows)[n * 2]? = some vs[n] ∧ (cellsW vs rows)[n * 2 + 1]? = some (.int .i64 rows[n].2)
 | v :: vs, r :: rows, 0, _, _ => ⟨rfl, rfl⟩
 | v :: vs, r :: rows, n + 1, h, h' => by
  have := cellsW_get (vs := vs) (rows := rows) (n := n) (by simpa using h) (by simpa using h')
  have e : cellsW (v :: vs) (r :: rows) = v :: .int .i64 r.2 :: cellsW vs rows := rfl
  rw [e, show (n + 1) * 2 = n * 2 + 1 + 1 from by omega, List.getElem?_cons_succ, List.getElem?_cons_succ, show n * 2 + 1 + 1 + 1 = (n * 2 + 1) + 1 + 1 from rfl, List.getElem?_cons_succ, List.getElem?_cons_succ]
  exact this
/-- Pairs in memory: two cells a pair, the first a list of the call's own. -/
def OwnW (lo : Nat) (w : World) (v : Value) (vs : List Value) (rows : List WSt) : Prop :=
 vs.length = rows.length ∧ w.ownsRow lo 78 2 v rows.length (cellsW vs rows) ∧ ∀ (i : Nat) (h : i < vs.length) (h' : i < rows.length), w.ownsRow lo 2 1 vs[i] rows[i].1.length (rows[i].1.map (Value.int .i64))
theorem OwnW.below {lo : Nat} {w w' : World} {v : Value} {vs : List Value} {rows : List WSt} (h : OwnW lo w v vs rows) (hb : Below w.heap.size w w') : OwnW lo w' v vs rows :=
 ⟨h.1, owns_below h.2.1 hb, fun i hi hi' => owns_below (h.2.2 i hi hi') hb⟩
theorem OwnW.kept {lo : Nat} {w w' : World} {v : Value} {vs : List Value} {rows : List WSt} {row : Option Nat} (h : OwnW lo w v vs rows) (hg : w.grownBy w' row) (h0 : v.ownBlock = none ∨ v.ownBlock ≠ row)
  (h1 : ∀ j (hj : j < vs.length), vs[j].ownBlock = none ∨ vs[j].ownBlock ≠ row) : OwnW lo w' v vs rows :=
 ⟨h.1, h.2.1.kept hg h0, fun i hi hi' => (h.2.2 i hi hi').kept hg (h1 i hi)⟩
theorem OwnW.push {lo B2 : Nat} {w w' : World} {v v' rv : Value} {vs : List Value} {rows : List WSt} {r : WSt} (h : OwnW lo w v vs rows) (hr : w.ownsRow B2 2 1 rv r.1.length (r.1.map (Value.int .i64))) (hlo : lo ≤ B2) (hg : w.grownBy w' v.ownBlock)
  (hv : w'.ownsRow lo 78 2 v' (rows.length + 1) (cellsW vs rows ++ [rv, .int .i64 r.2])) : OwnW lo w' v' (vs ++ [rv]) (rows ++ [r]) := by
 obtain ⟨h1, h2, h3⟩ := h
 refine ⟨by simp [h1], ?_, fun i hi hi' => ?_⟩
 ·rw [cellsW_push h1, List.length_append]
  exact hv
 ·by_cases hlt : i < vs.length
  ·rw [List.getElem_append_left hlt]
   simp only [List.getElem_append_left (show i < rows.length by omega)]
   exact (h3 i hlt (by omega)).kept hg (own_types (h3 i hlt (by omega)) h2 (by decide))
  ·have e : i = vs.length := by simp at hi; omega
   subst e
   simp only [List.getElem_concat_length]
   have : (rows ++ [r])[vs.length] = r := by simp [h1]
   rw [this]
   exact (own_lower hr hlo).kept hg (own_types hr h2 (by decide))
theorem OwnW.set1 {lo : Nat} {w : World} {v : Value} {vs : List Value} {rows : List WSt} (h : OwnW lo w v vs rows) {b : Nat} {cs : List Value} {t : TypeId} (hb : Blk w b cs t) (he : 78 ≠ t) (hi : 2 ≠ t) (i : Nat) (u : Value) : OwnW lo (w.setCell ⟨b, i, none⟩ u) v vs rows :=
 h.kept (grown_setCell w ⟨b, i, none⟩ u) (own_type_ne h.2.1 hb he) (fun j hj => own_type_ne (h.2.2 j hj (by rw [← h.1]; exact hj)) hb hi)

/-- The explorer of pairs: its four fields, the variable that holds its address, the loop's variable. -/
structure ExpW (B xb mb pb ib rb : Nat) (on : Bool) (i : Nat) (t : Lts) (st : WNet) (sv av : Value) (vs : List Value) (w : World) : Prop where
 base : B ≤ xb
 mbase : B ≤ mb
 pbase : B ≤ pb
 ibase : B ≤ ib
 rbase : B ≤ rb
 box : Blk w xb [sv, .map (some mb), av, .func (.func 43) #[] #[]] 116
 ptr : Blk w pb [.pointer (some ⟨xb, 0, none⟩)] 113
 idx : on = true → Blk w ib [.int .i64 i] 3
 res : Blk w rb [.int .i64 0, .int .i64 0, .slice none 0 0, .slice none 0 0] 29
 rows : OwnW B w sv vs st.rows
 map : NumMap .i64 w mb (st.rows.map keyP)
 arcs : w.ownsRow B 119 3 av st.edges.length (st.edges.flatMap (encA t))
theorem ExpW.below {on : Bool} {B xb mb pb ib rb i : Nat} {t : Lts} {st : WNet} {sv av : Value} {vs : List Value} {w w' : World} (h : ExpW B xb mb pb ib rb on i t st sv av vs w) (hb : Below w.heap.size w w') : ExpW B xb mb pb ib rb on i t st sv av vs w' :=
 ⟨h.base, h.mbase, h.pbase, h.ibase, h.rbase, h.box.below hb, h.ptr.below hb, fun ho => (h.idx ho).below hb, h.res.below hb, h.rows.below hb, h.map.below hb, owns_below h.arcs hb⟩
/-- After the map and the list have grown. -/
theorem ExpW.grow {on : Bool} {B xb mb pb ib rb i B2 : Nat} {t : Lts} {st : WNet} {sv av sv' rv : Value} {vs : List Value} {r : WSt} {w1 w2 w3 w4 : World} (h : ExpW B xb mb pb ib rb on i t st sv av vs w1) (hg2 : w1.grownBy w2 (some mb)) (hm2 : NumMap .i64 w2 mb (st.rows.map keyP ++ [keyP r]))
  (hb3 : Below w2.heap.size w2 w3) (hg4 : w3.grownBy w4 sv.ownBlock) (ho4 : w4.ownsRow B 78 2 sv' (st.rows.length + 1) (cellsW vs st.rows ++ [rv, .int .i64 r.2])) (hB2 : B ≤ B2)
  (hr : w1.ownsRow B2 2 1 rv r.1.length (r.1.map (Value.int .i64))) :
  ExpW B xb mb pb ib rb on i t ⟨st.rows ++ [r], st.edges⟩ sv' av (vs ++ [rv]) (w4.setCell ⟨xb, 0, none⟩ sv') := by
 have mblk : w1.heap[mb]? = some (.map (((st.rows.map keyP).mapIdx fun i k => (⟨k, .int .i64 i, i⟩ : MapEntry)).toArray) (st.rows.map keyP).length) := h.map
 have X2 : Blk w2 xb _ _ := (hg2.block xb h.box.lt (fun e => blk_map_ne' h.box mblk (Option.some.inj e))).trans h.box
 have P2 : Blk w2 pb _ _ := (hg2.block pb h.ptr.lt (fun e => blk_map_ne' h.ptr mblk (Option.some.inj e))).trans h.ptr
 have I2 := fun (ho : on = true) => (show Blk w2 ib [.int .i64 i] 3 from (hg2.block ib (h.idx ho).lt (fun e => blk_map_ne' (h.idx ho) mblk (Option.some.inj e))).trans (h.idx ho))
 have S2 : Blk w2 rb _ _ := (hg2.block rb h.res.lt (fun e => blk_map_ne' h.res mblk (Option.some.inj e))).trans h.res
 have R2 := h.rows.kept hg2 (own_map_ne h.rows.2.1 mblk) (fun j hj => own_map_ne (h.rows.2.2 j hj (by rw [← h.rows.1]; exact hj)) mblk)
 have A2 := h.arcs.kept hg2 (own_map_ne h.arcs mblk)
 have V2 := hr.kept hg2 (own_map_ne hr mblk)
 have X3 := X2.below hb3
 have P3 := P2.below hb3
 have I3 := fun ho => (I2 ho).below hb3
 have S3 := S2.below hb3
 have R3 := R2.below hb3
 have A3 := owns_below A2 hb3
 have V3 := owns_below V2 hb3
 have M3 := hm2.below hb3
 have X4 : Blk w4 xb _ _ := (hg4.block xb X3.lt (blk_own_ne' X3 R3.2.1 (by decide))).trans X3
 have P4 : Blk w4 pb _ _ := (hg4.block pb P3.lt (blk_own_ne' P3 R3.2.1 (by decide))).trans P3
 have I4 := fun (ho : on = true) => (show Blk w4 ib [.int .i64 i] 3 from (hg4.block ib (I3 ho).lt (blk_own_ne' (I3 ho) R3.2.1 (by decide))).trans (I3 ho))
 have S4 : Blk w4 rb _ _ := (hg4.block rb S3.lt (blk_own_ne' S3 R3.2.1 (by decide))).trans S3
 have M4 := M3.kept hg4 (fun e => by
  rcases own_map_ne R3.2.1 M3 with h | h
  ·rw [h] at e; cases e
  ·exact h e.symm)
 have A4 := A3.kept hg4 (own_types A3 R3.2.1 (by decide))
 have R4 := R3.push V3 hB2 hg4 ho4
 have hs := grown_setCell w4 ⟨xb, 0, none⟩ sv'
 refine ⟨h.base, h.mbase, h.pbase, h.ibase, h.rbase, X4.set 0 sv', P4.setOther _ _ (blk_blk_ne P4 X4 (by decide)), (fun ho => (I4 ho).setOther _ _ (blk_blk_ne (I4 ho) X4 (by decide))), S4.setOther _ _ (blk_blk_ne S4 X4 (by decide)), ?_, ?_, ?_⟩
 ·exact R4.set1 X4 (by decide) (by decide) 0 sv'
 ·have := M4.kept hs (fun e => blk_map_ne' X4 M4 (Option.some.inj e).symm)
  simpa using this
 ·exact A4.kept hs (own_type_ne A4 X4 (by decide))
/-- After the list of arcs has grown. -/
theorem ExpW.arc {on : Bool} {B xb mb pb ib rb i : Nat} {t : Lts} {st : WNet} {e : Edge} {sv av av' : Value} {vs : List Value} {w1 w2 w3 : World} (h : ExpW B xb mb pb ib rb on i t st sv av vs w1) (hb : Below w1.heap.size w1 w2) (hg : w2.grownBy w3 av.ownBlock)
  (ho : w3.ownsRow B 119 3 av' (st.edges.length + 1) (st.edges.flatMap (encA t) ++ encA t e)) : ExpW B xb mb pb ib rb on i t ⟨st.rows, st.edges ++ [e]⟩ sv av' vs (w3.setCell ⟨xb, 2, none⟩ av') := by
 have H2 := h.below hb
 have X3 : Blk w3 xb _ _ := (hg.block xb H2.box.lt (blk_own_ne' H2.box H2.arcs (by decide))).trans H2.box
 have P3 : Blk w3 pb _ _ := (hg.block pb H2.ptr.lt (blk_own_ne' H2.ptr H2.arcs (by decide))).trans H2.ptr
 have I3 := fun (ho : on = true) => (show Blk w3 ib [.int .i64 i] 3 from (hg.block ib (H2.idx ho).lt (blk_own_ne' (H2.idx ho) H2.arcs (by decide))).trans (H2.idx ho))
 have S3 : Blk w3 rb _ _ := (hg.block rb H2.res.lt (blk_own_ne' H2.res H2.arcs (by decide))).trans H2.res
 have M3 := H2.map.kept hg (fun e => by
  rcases own_map_ne H2.arcs H2.map with h | h
  ·rw [h] at e; cases e
  ·exact h e.symm)
 have R3 := H2.rows.kept hg (own_types H2.rows.2.1 H2.arcs (by decide)) (fun j hj => own_types (H2.rows.2.2 j hj (by rw [← H2.rows.1]; exact hj)) H2.arcs (by decide))
 have hs := grown_setCell w3 ⟨xb, 2, none⟩ av'
 refine ⟨h.base, h.mbase, h.pbase, h.ibase, h.rbase, X3.set 2 av', P3.setOther _ _ (blk_blk_ne P3 X3 (by decide)), (fun ho => (I3 ho).setOther _ _ (blk_blk_ne (I3 ho) X3 (by decide))), S3.setOther _ _ (blk_blk_ne S3 X3 (by decide)), ?_, ?_, ?_⟩
 ·exact R3.set1 X3 (by decide) (by decide) 2 av'
 ·exact M3.kept hs (fun e => blk_map_ne' X3 M3 (Option.some.inj e).symm)
 ·have := ho.kept hs (own_type_ne ho X3 (by decide))
  simpa using this
/-- The next round's variable. -/
theorem ExpW.turn {B xb mb pb ib rb i : Nat} {t : Lts} {st : WNet} {sv av : Value} {vs : List Value} {w : World} {j : Nat} (h : ExpW B xb mb pb ib rb true i t st sv av vs w) (hB : B ≤ w.heap.size) :
  ExpW B xb mb pb w.heap.size rb true j t st sv av vs (w.alloc (.cells #[.int .i64 j] 3)) := by
 have hb : Below w.heap.size w (w.alloc (.cells #[.int .i64 j] 3)) := (Below.refl _ _).alloc (Nat.le_refl _) _
 have h2 := h.below hb
 exact ⟨h2.base, h2.mbase, h2.pbase, hB, h2.rbase, h2.box, h2.ptr, fun _ => Blk.new w [.int .i64 j] 3, h2.res, h2.rows, h2.map, h2.arcs⟩

/-- What a call leaves as it was: all old blocks but the explorer, its map and its two lists; and the lists lie where they lay or in new blocks. -/
structure Frm (xb mb : Nat) (sv av sv' av' : Value) (w w' : World) : Prop where
 size : w.heap.size ≤ w'.heap.size
 keep : ∀ b, b < w.heap.size → b ≠ xb → b ≠ mb → sv.ownBlock ≠ some b → av.ownBlock ≠ some b → w'.heap[b]? = w.heap[b]?
 s : ∀ b, sv'.ownBlock = some b → sv.ownBlock = some b ∨ w.heap.size ≤ b
 a : ∀ b, av'.ownBlock = some b → av.ownBlock = some b ∨ w.heap.size ≤ b
theorem Frm.of_below {xb mb : Nat} {sv av : Value} {w w' : World} (h : Below w.heap.size w w') : Frm xb mb sv av sv av w w' :=
 ⟨h.size, fun b hb _ _ _ _ => h.block b hb, fun _ h => .inl h, fun _ h => .inl h⟩
theorem Frm.trans {xb mb : Nat} {sv av sv1 av1 sv2 av2 : Value} {w w1 w2 : World} (h : Frm xb mb sv av sv1 av1 w w1) (k : Frm xb mb sv1 av1 sv2 av2 w1 w2) : Frm xb mb sv av sv2 av2 w w2 := by
 refine ⟨Nat.le_trans h.size k.size, fun b hb h1 h2 h3 h4 => ?_, fun b e => ?_, fun b e => ?_⟩
 ·rw [k.keep b (Nat.lt_of_lt_of_le hb h.size) h1 h2 (fun e => by rcases h.s b e with e | e; exact h3 e; omega) (fun e => by rcases h.a b e with e | e; exact h4 e; omega)]
  exact h.keep b hb h1 h2 h3 h4
 ·rcases k.s b e with e | e
  ·exact h.s b e
  ·exact .inr (Nat.le_trans h.size e)
 ·rcases k.a b e with e | e
  ·exact h.a b e
  ·exact .inr (Nat.le_trans h.size e)
theorem Frm.blk {xb mb : Nat} {sv av sv' av' : Value} {w w' : World} (h : Frm xb mb sv av sv' av' w w') {b : Nat} {cs : List Value} {t : TypeId} (hb : Blk w b cs t) (h1 : b ≠ xb) (h2 : b ≠ mb) (h3 : sv.ownBlock ≠ some b) (h4 : av.ownBlock ≠ some b) : Blk w' b cs t :=
 (h.keep b hb.lt h1 h2 h3 h4).trans hb
theorem Frm.of_grow {xb mb : Nat} {sv sv' av : Value} {w w1 w2 w3 w4 : World} (h1 : Below w.heap.size w w1) (h2 : w1.grownBy w2 (some mb)) (h3 : Below w2.heap.size w2 w3) (h4 : w3.grownBy w4 sv.ownBlock) (hs : ∀ b, sv'.ownBlock = some b → sv.ownBlock = some b ∨ w.heap.size ≤ b) :
  Frm xb mb sv av sv' av w (w4.setCell ⟨xb, 0, none⟩ sv') := by
 have s1 := h1.size
 have s2 := h2.size
 have s3 := h3.size
 have s4 := h4.size
 refine ⟨by rw [World.size_setCell]; omega, fun b hb hx hm hs' _ => ?_, hs, fun _ h => .inl h⟩
 rw [heap_setCell_other w4 ⟨xb, 0, none⟩ b sv' hx, h4.block b (by omega) (fun e => hs' e.symm), h3.block b (by omega), h2.block b (by omega) (fun e => hm (Option.some.inj e)), h1.block b hb]
theorem Frm.of_arc {xb mb : Nat} {sv sv' av av' : Value} {w w2 w3 w4 : World} (h : Frm xb mb sv av sv' av w w2) (hb : Below w2.heap.size w2 w3) (hg : w3.grownBy w4 av.ownBlock) (ha : ∀ b, av'.ownBlock = some b → av.ownBlock = some b ∨ w.heap.size ≤ b) :
  Frm xb mb sv av sv' av' w (w4.setCell ⟨xb, 2, none⟩ av') := by
 have s1 := h.size
 have s3 := hb.size
 have s4 := hg.size
 refine ⟨by rw [World.size_setCell]; omega, fun b hlt hx hm hs ha' => ?_, h.s, ha⟩
 rw [heap_setCell_other w4 ⟨xb, 2, none⟩ b av' hx, hg.block b (by omega) (fun e => ha' e.symm), hb.block b (by omega), h.keep b hlt hx hm hs ha']

end Go.Proofs.YtmhpfmanagbggaaGreatDoor

namespace Go.Proofs.YtmhpfmanagbggaaGreatDoor
open Go Go.RowKit

set_option maxRecDepth 100000 in
set_option maxHeartbeats 1000000 in
theorem key_any (lo : Nat) (sv : Value) (r : List Int) (y : Int) (w : World) (hv : SliceK 1 encI lo w sv r) (hr : ∀ x ∈ r, 0 ≤ x ∧ x < 40) (hl : r.length ≤ 1000) (hy0 : -1 ≤ y) (hy1 : y < 40) (g : Glob w) :
  Calls Tryz.prog 43 #[.agg #[sv, .int .i64 y]] w fun e w' => e = .returned (.string (keyW r y)) ∧ Below w.heap.size w w' := by
 obtain ⟨W, hW⟩ : ∃ W, W = w.alloc (.cells #[sv, .int .i64 y] 78) := ⟨_, rfl⟩
 obtain ⟨b, hb⟩ : ∃ b, b = w.heap.size := ⟨_, rfl⟩
 have hbW : Below w.heap.size w W := by rw [hW]; exact (Below.refl _ _).alloc (Nat.le_refl _) _
 have hX : Blk W b [sv, .int .i64 y] 78 := by rw [hW, hb]; exact Blk.new w _ _
 have hj : ∀ x ∈ r, -9223372036854775808 ≤ x ∧ x ≤ 9223372036854775807 := fun x hx => by have := hr x hx; omega
 have HJ : Hid (∀ l : Later W, Calls Tryz.prog 44 #[sv, .string ⟨#[44]⟩] l.w fun e w' => e = .returned (.string ⟨(Lib.join ((wordsOf r).map (·.data.toList)) [44]).toArray⟩) ∧ Below l.w.heap.size l.w w') := fun l =>
  joined_any sv ⟨#[44]⟩ lo r l.w (by omega) (fun i h => hj _ (List.getElem_mem h)) ((hv.below hbW).below l.h) ((g.below hbW).below l.h) (Nat.le_trans (keyT_len hj) (by omega))
 have HDC : Hid (∀ l : Later W, Calls Tryz.prog 45 #[.int .i64 y] l.w fun e w' => e = .returned (.string ⟨(Lib.itoa y).toArray⟩) ∧ Below l.w.heap.size l.w w') := fun l => Decimal_any y l.w (by omega) (by omega) ((g.below hbW).below l.h)
 have hk := keyT_len hj
 have hi := Lib.itoa_length_le y (by omega) (by omega)
 have hq1 : ¬ 9223372036854775807 < (Lib.join (List.map (fun x => x.data.toList) (wordsOf r)) [44]).length + 1 := by omega
 have hq2 : ¬ 9223372036854775807 < (Lib.join (List.map (fun x => x.data.toList) (wordsOf r)) [44]).length + 1 + (Lib.itoa y).length := by omega
 have l0 := later_cell hX.lt (hX.cell 0 rfl)
 have l1 := later_cell hX.lt (hX.cell 1 rfl)
 obtain ⟨sa, sn, sc, hse⟩ : ∃ sa sn sc, sv = .slice sa sn sc := by obtain ⟨a, c, e, -⟩ := hv; exact ⟨_, _, _, e⟩
 subst hse
 have HB := Lib.hid hbW
 have HW := Lib.hid hW
 have HBE := Lib.hid hb
 clear hk hi hv hr hl g hbW hX hj hW hb
 go_enter Tryz.func43, Tryz.ntmps43
 go_wp2
 rw [← HW.out]
 try rw [← HBE.out]
 refine wp_region_later (by kernel_rfl) (by kernel_rfl) ?_
 repeat (go_big_quiet_step ((first | (go_at_call 44; exact later_call (HJ.out _)) | (go_at_call 45; exact later_call (HDC.out _)))))
 refine wpQuiet_nil ?_
 intro _ hw9
 obtain ⟨nl, hw8⟩ := hw9
 subst hw8
 have HBN := Lib.hid (HB.out.trans (nl.h.mono HB.out.size))
 clear l0 l1
 go_wp2
 go_ret
 exact ⟨by unfold keyW; simp [Lib.join]; exact data_inj (by simp), HBN.out⟩

end Go.Proofs.YtmhpfmanagbggaaGreatDoor

namespace Go.Proofs.YtmhpfmanagbggaaGreatDoor
open Go Go.RowKit

/-- A list in blocks that are not touched. -/
theorem own_under {B : Nat} {w w' : World} {base e size n : Nat} {v : Value} {xs : List Value} (h : w.ownsRow base e size v n xs) (hb : Below B w w') (hlt : ∀ b, v.ownBlock = some b → b < B) : w'.ownsRow base e size v n xs := by
 refine ⟨h.1, ?_⟩
 rcases h.2 with hn | ⟨g, cap, cur, rfl, hg, hgg, rest⟩
 ·exact .inl hn
 ·exact .inr ⟨g, cap, cur, rfl, hg, (hb.block g (hlt g rfl)).trans hgg, rest⟩
/-- Two lists lie in different blocks. -/
def FarB (a b : Value) : Prop := ∀ x, a.ownBlock = some x → b.ownBlock ≠ some x
theorem FarB.symm {a b : Value} (h : FarB a b) : FarB b a := fun x hx hy => h x hy hx
theorem FarB.or {a b : Value} (h : FarB a b) : a.ownBlock = none ∨ a.ownBlock ≠ b.ownBlock := by
 cases e : a.ownBlock with
 | none => exact .inl rfl
 | some x => exact .inr fun k => h x e k.symm
theorem FarB.none (b : Value) (n c : Nat) : FarB (.slice none n c) b := fun x hx => by cases hx
theorem FarB.new {a b b' : Value} {N : Nat} (h : FarB a b) (hlt : ∀ x, a.ownBlock = some x → x < N) (hb : b'.ownBlock = b.ownBlock ∨ b'.ownBlock = some N) : FarB a b' := by
 intro x hx hy
 rcases hb with e | e
 ·exact h x hx (by rw [← e]; exact hy)
 ·rw [e] at hy
  injection hy with hy
  have := hlt x hx
  omega
theorem Blk.kept {w w' : World} {b : Nat} {cs : List Value} {t : TypeId} {row : Option Nat} (h : Blk w b cs t) (hg : w.grownBy w' row) (hne : some b ≠ row) : Blk w' b cs t := (hg.block b h.lt hne).trans h
theorem cell_setV {w : World} {p : Addr} {u : Value} {b o : Nat} (h : b ≠ p.block) : (w.setCell p u).cell? ⟨b, o, none⟩ = w.cell? ⟨b, o, none⟩ := World.cell?_setCell_far _ _ _ _ fun k => h k.symm
/-- A monitor's box filled: the system's four cells, or all five. -/
theorem own4M {w : World} {b : Nat} {x0 x1 x2 x3 x4 v0 v1 v2 v3 : Value} (hb : Blk w b [x0, x1, x2, x3, x4] 32) {base e size n : Nat} {v : Value} {xs : List Value} (h : w.ownsRow base e size v n xs) (he : e ≠ 32) :
  ((((w.setCell ⟨b, 0, none⟩ v0).setCell ⟨b, 1, none⟩ v1).setCell ⟨b, 2, none⟩ v2).setCell ⟨b, 3, none⟩ v3).ownsRow base e size v n xs :=
 own_sets (own_sets (own_sets (own_sets h hb he 0 _) (hb.set 0 _) he 1 _) ((hb.set 0 _).set 1 _) he 2 _) (((hb.set 0 _).set 1 _).set 2 _) he 3 _
theorem own5M {w : World} {b : Nat} {x0 x1 x2 x3 x4 v0 v1 v2 v3 v4 : Value} (hb : Blk w b [x0, x1, x2, x3, x4] 32) {base e size n : Nat} {v : Value} {xs : List Value} (h : w.ownsRow base e size v n xs) (he : e ≠ 32) :
  (((((w.setCell ⟨b, 0, none⟩ v0).setCell ⟨b, 1, none⟩ v1).setCell ⟨b, 2, none⟩ v2).setCell ⟨b, 3, none⟩ v3).setCell ⟨b, 4, none⟩ v4).ownsRow base e size v n xs :=
 own_sets (own4M hb h he) ((((hb.set 0 _).set 1 _).set 2 _).set 3 _) he 4 _

end Go.Proofs.YtmhpfmanagbggaaGreatDoor
