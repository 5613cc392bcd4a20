/-
  Sets of states as ascending lists; what internal edges reach; the deterministic system of a system, found row for row. Plain definitions; no program in sight.
  The rows found are all different and all sets of states; the edges lie within.
  How many traces of a length a deterministic system has, counted as both texts count: round for round over the edges, in wrapped numbers.
  The edges found stand in ascending order of where they begin and of their labels.
  The traces of a deterministic system in the order found. Plain definitions; no program in sight.
-/
import Derived.Test.YtpoleaekcjjedaaGreatDoorF2
namespace Go.Proofs.YtpoleaekcjjedaaGreatDoor
open Go Go.RowKit

/-- A list that has just the members P, ascending. -/
structure IsSet (P : Int → Prop) (l : List Int) : Prop where
 mem : ∀ x, x ∈ l ↔ P x
 asc : l.Pairwise (· < ·)

theorem asc_unique : ∀ (l m : List Int), l.Pairwise (· < ·) → m.Pairwise (· < ·) → (∀ x, x ∈ l ↔ x ∈ m) → l = m
 | [], [], _, _, _ => rfl
 | [], b :: m, _, _, h => by have := (h b).2 (by simp); simp at this
 | a :: l, [], _, _, h => by have := (h a).1 (by simp); simp at this
 | a :: l, b :: m, hl, hm, h => by
  rw [List.pairwise_cons] at hl hm
  have e : a = b := by
   have h1 := (h a).1 (by simp)
   have h2 := (h b).2 (by simp)
   rw [List.mem_cons] at h1 h2
   rcases h1 with h1 | h1
   ·exact h1
   ·rcases h2 with h2 | h2
    ·exact h2.symm
    ·have := hm.1 a h1
     have := hl.1 b h2
     omega
  subst e
  rw [asc_unique l m hl.2 hm.2 fun x => ?_]
  constructor
  ·intro hx
   have h1 := (h x).1 (by simp [hx])
   rw [List.mem_cons] at h1
   rcases h1 with h1 | h1
   ·have := hl.1 x hx; omega
   ·exact h1
  ·intro hx
   have h1 := (h x).2 (by simp [hx])
   rw [List.mem_cons] at h1
   rcases h1 with h1 | h1
   ·have := hm.1 x hx; omega
   ·exact h1
theorem IsSet.unique {P : Int → Prop} {l m : List Int} (hl : IsSet P l) (hm : IsSet P m) : l = m :=
 asc_unique l m hl.asc hm.asc fun x => (hl.mem x).trans (hm.mem x).symm
theorem IsSet.congr {P Q : Int → Prop} {l : List Int} (hl : IsSet P l) (h : ∀ x, P x ↔ Q x) : IsSet Q l := ⟨fun x => (hl.mem x).trans (h x), hl.asc⟩

noncomputable section
/-- The numbers below n with P, ascending. -/
def setL (n : Int) (P : Int → Prop) : List Int := ((List.range n.toNat).map fun (i : Nat) => (i : Int)).filter fun x => @decide (P x) (Classical.propDecidable _)
theorem setL_is {n : Int} {P : Int → Prop} (h : ∀ x, P x → 0 ≤ x ∧ x < n) : IsSet P (setL n P) where
 mem x := by
  unfold setL
  rw [List.mem_filter, List.mem_map]
  constructor
  ·intro hx
   exact @of_decide_eq_true _ (Classical.propDecidable _) hx.2
  ·intro hx
   have := h x hx
   exact ⟨⟨x.toNat, List.mem_range.2 (by omega), by omega⟩, @decide_eq_true _ (Classical.propDecidable _) hx⟩
 asc := by
  unfold setL
  refine List.Pairwise.filter _ ?_
  rw [List.pairwise_map]
  exact List.Pairwise.imp (fun h => by omega) List.pairwise_lt_range
end

/-- Internal edges lead from a to b. -/
inductive TauStar (t : Lts) (a : Int) : Int → Prop
 | refl : TauStar t a a
 | step {b : Int} (h : TauStar t a b) (e : Edge) (he : e ∈ t.edges) (hl : e.lab = 0) (hs : e.src = b) : TauStar t a e.dst
/-- What internal edges reach from S. -/
def clos (t : Lts) (S : Int → Prop) (x : Int) : Prop := ∃ a, S a ∧ TauStar t a x
theorem clos.base {t : Lts} {S : Int → Prop} {x : Int} (h : S x) : clos t S x := ⟨x, h, .refl⟩
theorem clos.next {t : Lts} {S : Int → Prop} {e : Edge} (h : clos t S e.src) (he : e ∈ t.edges) (hl : e.lab = 0) : clos t S e.dst := by
 obtain ⟨a, ha, hs⟩ := h
 exact ⟨a, ha, .step hs e he hl rfl⟩
theorem clos.least {t : Lts} {S Q : Int → Prop} (h1 : ∀ x, S x → Q x) (h2 : ∀ e ∈ t.edges, e.lab = 0 → Q e.src → Q e.dst) {x : Int} (h : clos t S x) : Q x := by
 obtain ⟨a, ha, hs⟩ := h
 induction hs with
 | refl => exact h1 a ha
 | step _ e he hl hs ih => exact h2 e he hl (hs ▸ ih)
theorem clos.inside {t : Lts} (hv : Valid t) {S : Int → Prop} (h : ∀ x, S x → 0 ≤ x ∧ x < t.states) (x : Int) (hx : clos t S x) : 0 ≤ x ∧ x < t.states :=
 hx.least (Q := fun x => 0 ≤ x ∧ x < t.states) h fun e he _ _ => by
  obtain ⟨i, hi, rfl⟩ := List.mem_iff_getElem.1 he
  have := hv.edge i hi
  exact ⟨this.d0, this.d1⟩

/-- Behind a label's number k, from the states in l. -/
def behindP (t : Lts) (l : List Int) (k : Int) (x : Int) : Prop := ∃ e ∈ t.edges, e.lab = k ∧ e.src ∈ l ∧ e.dst = x
theorem behindP_in {t : Lts} (hv : Valid t) {l : List Int} {k x : Int} (h : behindP t l k x) : 0 ≤ x ∧ x < t.states := by
 obtain ⟨e, he, -, -, rfl⟩ := h
 obtain ⟨i, hi, rfl⟩ := List.mem_iff_getElem.1 he
 exact ⟨(hv.edge i hi).d0, (hv.edge i hi).d1⟩
def firstP (t : Lts) : Int → Prop := clos t fun x => x = t.initial
def nextP (t : Lts) (l : List Int) (k : Int) : Int → Prop := clos t (behindP t l k)

noncomputable section
def firstS (t : Lts) : List Int := setL t.states (firstP t)
def nextS (t : Lts) (l : List Int) (k : Int) : List Int := setL t.states (nextP t l k)
theorem firstS_is {t : Lts} (hv : Valid t) : IsSet (firstP t) (firstS t) := setL_is (clos.inside hv fun x hx => by subst hx; exact ⟨hv.in0, hv.in1⟩)
theorem nextS_is {t : Lts} (hv : Valid t) (l : List Int) (k : Int) : IsSet (nextP t l k) (nextS t l k) := setL_is (clos.inside hv fun _ hx => behindP_in hv hx)

structure DNet where
 rows : List (List Int)
 edges : List Edge

def dplace (rows : List (List Int)) (r : List Int) : Nat := rows.findIdx fun q => q == r
def dadd (rows : List (List Int)) (r : List Int) : List (List Int) := if dplace rows r < rows.length then rows else rows ++ [r]
/-- One label (its number k) of the row number i. -/
def dstep (t : Lts) (i : Nat) (cur : List Int) (st : DNet) (k : Nat) : DNet :=
 if nextS t cur (k + 1) = [] then st else ⟨dadd st.rows (nextS t cur (k + 1)), st.edges ++ [⟨(i : Int), (k : Int) + 1, (dplace st.rows (nextS t cur (k + 1)) : Int)⟩]⟩
/-- The first j labels behind tau. -/
def dmid (t : Lts) (i : Nat) (cur : List Int) (st : DNet) (j : Nat) : DNet := (List.range j).foldl (dstep t i cur) st
def drow (t : Lts) (i : Nat) (st : DNet) : DNet :=
 match st.rows[i]? with
 | none => st
 | some cur => dmid t i cur st (t.labels.length - 1)
def dAt (t : Lts) : Nat → DNet
 | 0 => ⟨[firstS t], []⟩
 | n + 1 => drow t n (dAt t n)
end

def DCome (t : Lts) (n : Nat) : Prop := ∀ k, k < n → k < (dAt t k).rows.length
def DFound (t : Lts) (st : DNet) : Prop := ∃ n, DCome t n ∧ dAt t n = st ∧ st.rows.length = n
def DSmall (st : DNet) : Prop := st.rows.length ≤ 40 ∧ st.edges.length ≤ 300
def DOk (t : Lts) (st : DNet) : Prop := DFound t st ∧ DSmall st
/-- Somewhere on the way the net is too large. -/
def DFull (t : Lts) : Prop := ∃ n j cur, DCome t n ∧ (dAt t n).rows[n]? = some cur ∧ j ≤ t.labels.length - 1 ∧ ¬ DSmall (dmid t n cur (dAt t n) j)

/-- A net within another one. -/
structure DLe (a b : DNet) : Prop where
 rows : ∃ r, b.rows = a.rows ++ r
 edges : ∃ r, b.edges = a.edges ++ r
theorem DLe.refl (a : DNet) : DLe a a := ⟨⟨[], by simp⟩, ⟨[], by simp⟩⟩
theorem DLe.trans {a b c : DNet} (h : DLe a b) (k : DLe b c) : DLe a c := by
 obtain ⟨⟨r, h1⟩, ⟨s, h2⟩⟩ := h
 obtain ⟨⟨u, h3⟩, ⟨v, h4⟩⟩ := k
 exact ⟨⟨r ++ u, by rw [h3, h1, List.append_assoc]⟩, ⟨s ++ v, by rw [h4, h2, List.append_assoc]⟩⟩
theorem DLe.small {a b : DNet} (h : DLe a b) (hb : DSmall b) : DSmall a := by
 obtain ⟨⟨r, h1⟩, ⟨s, h2⟩⟩ := h
 unfold DSmall at *
 rw [h1, h2, List.length_append, List.length_append] at hb
 omega
theorem dstep_le (t : Lts) (i : Nat) (cur : List Int) (st : DNet) (k : Nat) : DLe st (dstep t i cur st k) := by
 unfold dstep
 split
 ·exact DLe.refl st
 ·refine ⟨?_, ⟨_, rfl⟩⟩
  unfold dadd
  split
  ·exact ⟨[], by simp⟩
  ·exact ⟨_, rfl⟩
theorem dmid_succ (t : Lts) (i : Nat) (cur : List Int) (st : DNet) (j : Nat) : dmid t i cur st (j + 1) = dstep t i cur (dmid t i cur st j) j := by
 unfold dmid
 rw [List.range_succ, List.foldl_append]
 rfl
theorem dmid_le (t : Lts) (i : Nat) (cur : List Int) (st : DNet) (j : Nat) : ∀ d, DLe (dmid t i cur st j) (dmid t i cur st (j + d))
 | 0 => DLe.refl _
 | d + 1 => by
  rw [← Nat.add_assoc, dmid_succ]
  exact (dmid_le t i cur st j d).trans (dstep_le t i cur _ _)
theorem drow_le (t : Lts) (i : Nat) (st : DNet) : DLe st (drow t i st) := by
 unfold drow
 split
 ·exact DLe.refl st
 ·next cur _ =>
  have := dmid_le t i cur st 0 (t.labels.length - 1)
  rw [Nat.zero_add] at this
  exact this
theorem dAt_le (t : Lts) (n : Nat) : ∀ d, DLe (dAt t n) (dAt t (n + d))
 | 0 => DLe.refl _
 | d + 1 => by
  rw [← Nat.add_assoc]
  exact (dAt_le t n d).trans (drow_le t _ _)

theorem DFound.unique {t : Lts} {a b : DNet} (ha : DFound t a) (hb : DFound t b) : a = b := by
 obtain ⟨m, hm, em, lm⟩ := ha
 obtain ⟨n, hn, en, ln⟩ := hb
 rcases Nat.lt_trichotomy m n with h | h | h
 ·have := hn m h
  rw [em] at this
  omega
 ·subst h
  exact em.symm.trans en
 ·have := hm n h
  rw [en] at this
  omega
theorem DOk.not_full {t : Lts} {st : DNet} (h : DOk t st) : ¬ DFull t := by
 rintro ⟨n, j, cur, hc, hcur, hj, hs⟩
 obtain ⟨⟨m, hm, em, lm⟩, hsm⟩ := h
 have hn := (List.getElem?_eq_some_iff.1 hcur).1
 rcases Nat.lt_or_ge n m with hlt | hge
 ·refine hs (DLe.small ?_ hsm)
  have h1 := dmid_le t n cur (dAt t n) j (t.labels.length - 1 - j)
  rw [show j + (t.labels.length - 1 - j) = t.labels.length - 1 from by omega] at h1
  have h2 : dmid t n cur (dAt t n) (t.labels.length - 1) = dAt t (n + 1) := by
   rw [dAt]
   unfold drow
   rw [hcur]
  rw [h2] at h1
  have h3 := dAt_le t (n + 1) (m - (n + 1))
  rw [show n + 1 + (m - (n + 1)) = m from by omega, em] at h3
  exact h1.trans h3
 ·rcases Nat.lt_or_ge m n with h2 | h2
  ·have := hc m h2
   rw [em] at this
   omega
  ·obtain rfl : n = m := by omega
   rw [em] at hn
   omega

/-- Up to the row number n, all small: the search goes on, or it has found all, or it is too large. -/
theorem DCome.succ {t : Lts} {n : Nat} (h : DCome t n) (hn : n < (dAt t n).rows.length) : DCome t (n + 1) := by
 intro k hk
 by_cases e : k = n
 ·subst e; exact hn
 ·exact h k (by omega)
theorem DCome.zero (t : Lts) : DCome t 0 := fun k h => by omega

theorem dplace_lt {rows : List (List Int)} {q : List Int} : dplace rows q < rows.length ↔ q ∈ rows := by
 unfold dplace
 rw [List.findIdx_lt_length]
 simp
theorem dplace_get {rows : List (List Int)} {q : List Int} (h : dplace rows q < rows.length) : rows[dplace rows q] = q := by
 have := List.findIdx_getElem (p := fun q' => q' == q) (xs := rows) (w := h)
 exact eq_of_beq this
theorem dplace_le (rows : List (List Int)) (q : List Int) : dplace rows q ≤ rows.length := by unfold dplace; exact List.findIdx_le_length

/-! ### sweeps over the internal edges -/
/-- An internal edge as a pair (where it leads, where it begins); another edge says nothing. -/
def tauPair (e : Edge) : Nat × Nat := if e.lab = 0 then (e.dst.toNat, e.src.toNat) else (0, 0)
def tauPairs (t : Lts) : List (Nat × Nat) := t.edges.map tauPair
def markB (l : List Bool) (i : Nat) : Bool := l.getD i false
/-- The true places of a list of truth values. -/
def inL (l : List Bool) (x : Int) : Prop := 0 ≤ x ∧ l[x.toNat]? = some true

theorem co_clos {t : Lts} (hv : Valid t) {l : List Bool} {i : Nat} (h : Co (tauPairs t) (markB l) i) : clos t (inL l) (i : Int) := by
 induction h with
 | @here i h =>
  refine clos.base ⟨by omega, ?_⟩
  unfold markB at h
  rw [List.getD_eq_getElem?_getD] at h
  rw [Int.toNat_natCast]
  cases h2 : l[i]? with
  | none => rw [h2] at h; cases h
  | some b => rw [h2] at h; simp only [Option.getD_some] at h; rw [h]
 | @step a b he _ ih =>
  obtain ⟨e, hm, hp⟩ := List.mem_map.1 he
  unfold tauPair at hp
  split at hp
  ·next hl =>
   obtain ⟨j, hj, rfl⟩ := List.mem_iff_getElem.1 hm
   have hok := hv.edge j hj
   simp only [Prod.mk.injEq] at hp
   have h1 : ((a : Nat) : Int) = t.edges[j].dst := by have := hok.d0; omega
   have h2 : ((b : Nat) : Int) = t.edges[j].src := by have := hok.s0; omega
   rw [h1]
   rw [h2] at ih
   exact ih.next hm hl
  ·simp only [Prod.mk.injEq] at hp
   obtain ⟨rfl, rfl⟩ := hp
   exact ih
theorem clos_co {t : Lts} (hv : Valid t) {l : List Bool} {x : Int} (h : clos t (inL l) x) : 0 ≤ x ∧ Co (tauPairs t) (markB l) x.toNat := by
 refine h.least (Q := fun x => 0 ≤ x ∧ Co (tauPairs t) (markB l) x.toNat) ?_ ?_
 ·rintro y ⟨h0, h1⟩
  refine ⟨h0, .here ?_⟩
  unfold markB
  rw [List.getD_eq_getElem?_getD, h1]
  rfl
 ·intro e he hl ⟨_, h2⟩
  obtain ⟨j, hj, rfl⟩ := List.mem_iff_getElem.1 he
  refine ⟨(hv.edge j hj).d0, .step (b := t.edges[j].src.toNat) ?_ h2⟩
  refine List.mem_map.2 ⟨_, he, ?_⟩
  unfold tauPair
  rw [if_pos hl]
/-- At rest, the true places are what internal edges reach. -/
theorem rest_clos {t : Lts} (hv : Valid t) {l good : List Bool} (hc : CoOk (tauPairs t) (markB l) good) (hd : CoDone (tauPairs t) good) (x : Int) : inL good x ↔ clos t (inL l) x := by
 constructor
 ·rintro ⟨h0, h1⟩
  have := co_clos hv ((hc.iff hd x.toNat).1 h1)
  rw [Int.toNat_of_nonneg h0] at this
  exact this
 ·intro h
  obtain ⟨h0, h1⟩ := clos_co hv h
  exact ⟨h0, (hc.iff hd x.toNat).2 h1⟩
theorem markB_ok (t : Lts) (l : List Bool) : CoOk (tauPairs t) (markB l) l where
 sound i hi := .here (by unfold markB; rw [List.getD_eq_getElem?_getD, hi]; rfl)
 marked i hi := by
  unfold markB at hi
  rw [List.getD_eq_getElem?_getD] at hi
  cases h2 : l[i]? with
  | none => rw [h2] at hi; cases hi
  | some b => rw [h2] at hi; simp only [Option.getD_some] at hi; rw [hi]

end Go.Proofs.YtpoleaekcjjedaaGreatDoor

namespace Go.Proofs.YtpoleaekcjjedaaGreatDoor
open Go Go.RowKit

theorem dplace_eq {rows : List (List Int)} {r : List Int} {m : Nat} (hn : rows.Nodup) (hm : m < rows.length) (h : rows[m] = r) : dplace rows r = m := by
 have hlt : dplace rows r < rows.length := dplace_lt.2 (h ▸ List.getElem_mem hm)
 exact (List.getElem_inj hn).1 ((dplace_get hlt).trans h.symm)
theorem dadd_nodup {rows : List (List Int)} {r : List Int} (h : rows.Nodup) : (dadd rows r).Nodup := by
 unfold dadd
 split
 ·exact h
 ·next hn =>
  rw [List.nodup_append]
  refine ⟨h, by simp, ?_⟩
  intro a ha b hb e
  rw [List.mem_singleton] at hb
  subst hb
  subst e
  exact hn (dplace_lt.2 ha)

/-- What holds of the net at each point. -/
structure DGood (t : Lts) (st : DNet) : Prop where
 nodup : st.rows.Nodup
 some : 0 < st.rows.length
 rows : ∀ r ∈ st.rows, (∀ x ∈ r, 0 ≤ x ∧ x < t.states) ∧ r.Pairwise (· < ·) ∧ r ≠ []
 edges : ∀ e ∈ st.edges, (0 ≤ e.src ∧ e.src < st.rows.length) ∧ (1 ≤ e.lab ∧ e.lab < t.labels.length) ∧ 0 ≤ e.dst ∧ e.dst < st.rows.length

theorem dadd_len (rows : List (List Int)) (r : List Int) : rows.length ≤ (dadd rows r).length ∧ dplace rows r < (dadd rows r).length := by
 unfold dadd
 have := dplace_le rows r
 split
 ·omega
 ·simp; omega
theorem mem_dadd {rows : List (List Int)} {r q : List Int} (h : q ∈ dadd rows r) : q ∈ rows ∨ q = r := by
 unfold dadd at h
 split at h
 ·exact .inl h
 ·rcases List.mem_append.1 h with h | h
  ·exact .inl h
  ·exact .inr (by simpa using h)

theorem DGood.step {t : Lts} (hv : Valid t) {st : DNet} (h : DGood t st) {i : Nat} (hi : i < st.rows.length) (cur : List Int) {k : Nat} (hk : k < t.labels.length - 1) : DGood t (dstep t i cur st k) := by
 unfold dstep
 split
 ·exact h
 ·next hne =>
  have hl := dadd_len st.rows (nextS t cur (k + 1))
  have hs := nextS_is hv cur ((k : Int) + 1)
  refine ⟨dadd_nodup h.nodup, ?_, ?_, ?_⟩
  ·show 0 < (dadd st.rows (nextS t cur (k + 1))).length
   omega
  ·intro r hr
   rcases mem_dadd hr with hr | rfl
   ·exact h.rows r hr
   ·exact ⟨fun x hx => clos.inside hv (fun y hy => behindP_in hv hy) x ((hs.mem x).1 hx), hs.asc, hne⟩
  ·intro e he
   rcases List.mem_append.1 he with he | he
   ·have := h.edges e he
    exact ⟨⟨this.1.1, by have := this.1.2; show e.src < (((dadd st.rows (nextS t cur (k + 1))).length : Nat) : Int); omega⟩, this.2.1, this.2.2.1, by have := this.2.2.2; show e.dst < (((dadd st.rows (nextS t cur (k + 1))).length : Nat) : Int); omega⟩
   ·rw [List.mem_singleton] at he
    subst he
    refine ⟨⟨by simp, ?_⟩, ⟨by show (1 : Int) ≤ (k : Int) + 1; omega, ?_⟩, by simp, ?_⟩
    ·show (i : Int) < (((dadd st.rows (nextS t cur (k + 1))).length : Nat) : Int)
     omega
    ·show (k : Int) + 1 < (t.labels.length : Int)
     omega
    ·show ((dplace st.rows (nextS t cur (k + 1)) : Nat) : Int) < (((dadd st.rows (nextS t cur (k + 1))).length : Nat) : Int)
     omega
theorem dmid_zero (t : Lts) (i : Nat) (cur : List Int) (st : DNet) : dmid t i cur st 0 = st := rfl
theorem DGood.mid {t : Lts} (hv : Valid t) {st : DNet} (h : DGood t st) {i : Nat} (hi : i < st.rows.length) (cur : List Int) : ∀ j, j ≤ t.labels.length - 1 → DGood t (dmid t i cur st j)
 | 0, _ => by rw [dmid_zero]; exact h
 | j + 1, hj => by
  rw [dmid_succ]
  refine (DGood.mid hv h hi cur j (by omega)).step hv ?_ cur (by omega)
  obtain ⟨⟨r, hr⟩, -⟩ := dmid_le t i cur st 0 j
  rw [Nat.zero_add, dmid_zero] at hr
  rw [hr, List.length_append]
  omega
theorem DGood.start {t : Lts} (hv : Valid t) : DGood t (dAt t 0) := by
 have hs := firstS_is hv
 refine ⟨by simp [dAt], by simp [dAt], ?_, by simp [dAt]⟩
 intro r hr
 simp only [dAt, List.mem_singleton] at hr
 subst hr
 refine ⟨fun x hx => clos.inside hv (fun y hy => ?_) x ((hs.mem x).1 hx), hs.asc, fun e => ?_⟩
 ·subst hy
  exact ⟨hv.in0, hv.in1⟩
 ·have := (hs.mem t.initial).2 (clos.base rfl)
  rw [e] at this
  simp at this
theorem DGood.at {t : Lts} (hv : Valid t) : ∀ n, DGood t (dAt t n)
 | 0 => DGood.start hv
 | n + 1 => by
  rw [dAt]
  unfold drow
  split
  ·exact DGood.at hv n
  ·next cur hc => exact (DGood.at hv n).mid hv (List.getElem?_eq_some_iff.1 hc).1 cur _ (Nat.le_refl _)

end Go.Proofs.YtpoleaekcjjedaaGreatDoor

namespace Go.Proofs.YtpoleaekcjjedaaGreatDoor
open Go Go.RowKit

/-- One edge of a round. -/
def addWay (ways nx : List Int) (e : Edge) : List Int := nx.set e.dst.toNat (wrap64 (nx.getD e.dst.toNat 0 + ways.getD e.src.toNat 0))
def nextTo (R : Nat) (es : List Edge) (ways : List Int) (k : Nat) : List Int := (es.take k).foldl (addWay ways) (List.replicate R 0)
theorem nextTo_zero (R : Nat) (es : List Edge) (ways : List Int) : nextTo R es ways 0 = List.replicate R 0 := rfl
theorem nextTo_succ {R : Nat} {es : List Edge} {ways : List Int} {k : Nat} (h : k < es.length) : nextTo R es ways (k + 1) = addWay ways (nextTo R es ways k) es[k] := by
 unfold nextTo
 rw [List.take_succ_eq_append_getElem h, List.foldl_append]
 rfl
theorem nextTo_len (R : Nat) (es : List Edge) (ways : List Int) (k : Nat) : (nextTo R es ways k).length = R := by
 unfold nextTo
 suffices h : ∀ (l : List Edge) (x : List Int), x.length = R → (l.foldl (addWay ways) x).length = R from h _ _ (by simp)
 intro l
 induction l with
 | nil => intro x hx; exact hx
 | cons e l ih => intro x hx; exact ih _ (by unfold addWay; rw [List.length_set]; exact hx)
def waysAt (R : Nat) (es : List Edge) : Nat → List Int
 | 0 => (List.replicate R 0).set 0 1
 | n + 1 => nextTo R es (waysAt R es n) es.length
theorem waysAt_len (R : Nat) (es : List Edge) : ∀ n, (waysAt R es n).length = R
 | 0 => by rw [waysAt, List.length_set, List.length_replicate]
 | n + 1 => by rw [waysAt]; exact nextTo_len ..
def sumTo (l : List Int) (k : Nat) : Int := (l.take k).foldl (fun s x => wrap64 (s + x)) 0
theorem sumTo_zero (l : List Int) : sumTo l 0 = 0 := rfl
theorem sumTo_succ {l : List Int} {k : Nat} (h : k < l.length) : sumTo l (k + 1) = wrap64 (sumTo l k + l[k]) := by
 unfold sumTo
 rw [List.take_succ_eq_append_getElem h, List.foldl_append]
 rfl
def countOf (st : DNet) (n : Nat) : Int := sumTo (waysAt st.rows.length st.edges n) st.rows.length

/-- The count and the error's code. -/
def CountIs (t : Lts) (q c code : Int) : Prop :=
 (¬ Valid t ∧ c = 0 ∧ code = 1) ∨ (Valid t ∧ ¬ (0 ≤ q ∧ q ≤ 12) ∧ c = 0 ∧ code = 2) ∨ (Valid t ∧ (0 ≤ q ∧ q ≤ 12) ∧ DFull t ∧ c = 0 ∧ code = 5)
  ∨ (Valid t ∧ (0 ≤ q ∧ q ≤ 12) ∧ ∃ st, DOk t st ∧ c = countOf st q.toNat ∧ code = 0)
theorem CountIs.unique {t : Lts} {q c c' code code' : Int} (h : CountIs t q c code) (k : CountIs t q c' code') : c = c' ∧ code = code' := by
 rcases h with ⟨h1, h2, h3⟩ | ⟨h1, h2, h3, h4⟩ | ⟨h1, h2, h3, h4, h5⟩ | ⟨h1, h2, st, h3, h4, h5⟩ <;>
  rcases k with ⟨k1, k2, k3⟩ | ⟨k1, k2, k3, k4⟩ | ⟨k1, k2, k3, k4, k5⟩ | ⟨k1, k2, st', k3, k4, k5⟩ <;>
  first
  | exact absurd k1 h1
  | exact absurd h1 k1
  | exact absurd k2 h2
  | exact absurd h2 k2
  | exact absurd k3 h3.not_full
  | exact absurd h3 k3.not_full
  | (have := h3.1.unique k3.1; subst this; exact ⟨by omega, by omega⟩)
  | exact ⟨by omega, by omega⟩
def RetCount (t : Lts) (q : Int) (w : World) (e : Ending) (w' : World) : Prop :=
 Below w.heap.size w w' ∧ ∃ c code, e = .returned (.tuple #[.int .i64 c, .int .i64 code]) ∧ CountIs t q c code

/-- A number's cell of a list. -/
theorem cell_num {w : World} {base e g n cap : Nat} {c : List Int} (h : w.ownsRow base e 1 (.slice (some ⟨g, 0, none⟩) n cap) n (c.map (Value.int .i64))) {i : Nat} (hi : i < n) : w.cell? ⟨g, i, none⟩ = some (.int .i64 (c.getD i 0)) := by
 have h1 := h.cellAt i (by omega)
 have hl : c.length = n := by have := h.1; simpa using this
 rw [h1, List.getElem?_map, List.getElem?_eq_getElem (by omega), List.getD_eq_getElem?_getD, List.getElem?_eq_getElem (by omega)]
 rfl

theorem own_edge20 {w : World} {lo : Nat} {ty : TypeId} {a : Option Addr} {c n : Nat} {xs : List Edge} (h : w.ownsRow lo ty 3 (.slice a n c) n (xs.flatMap encE)) (hn : n = xs.length) {i : Nat} (hi : i < xs.length) :
  ∃ b, a = some ⟨b, 0, none⟩ ∧ b < w.heap.size ∧ w.cell? ⟨b, i * 3, none⟩ = some (.int .i64 xs[i].src) ∧ w.cell? ⟨b, i * 3 + 1, none⟩ = some (.int .i64 xs[i].lab) ∧ w.cell? ⟨b, i * 3 + 2, none⟩ = some (.int .i64 xs[i].dst) := by
 subst hn
 have hs : SliceK 3 encE lo w (.slice a xs.length c) xs := SliceK.of_owns encE_len rfl h
 obtain ⟨a2, c2, e2, -, -, hrow⟩ := hs
 simp only [Value.slice.injEq, true_and] at e2
 obtain ⟨rfl, rfl⟩ := e2
 obtain ⟨b, o, rfl, -, hb, e1, e2, e3⟩ := hrow.edge hi
 rcases h.2 with ⟨e, -⟩ | ⟨g, cap, cur, e, -⟩
 ·simp at e
 ·simp only [Value.slice.injEq, Option.some.injEq, Addr.mk.injEq, and_true, true_and] at e
  obtain ⟨⟨rfl, rfl⟩, rfl⟩ := e
  rw [Nat.zero_add] at e1 e2 e3
  exact ⟨b, rfl, hb, e1, e2, e3⟩

end Go.Proofs.YtpoleaekcjjedaaGreatDoor

namespace Go.Proofs.YtpoleaekcjjedaaGreatDoor
open Go Go.RowKit

/-- Ascending, and no edge behind the label number j of the row n. -/
def EdgesUp (n j : Int) (es : List Edge) : Prop := es.Pairwise (fun a b => a.src < b.src ∨ (a.src = b.src ∧ a.lab < b.lab)) ∧ ∀ e ∈ es, e.src < n ∨ (e.src = n ∧ e.lab ≤ j)
theorem EdgesUp.step {t : Lts} {i k : Nat} {cur : List Int} {st : DNet} (h : EdgesUp i k st.edges) : EdgesUp i ((k : Int) + 1) (dstep t i cur st k).edges := by
 unfold dstep
 split
 ·exact ⟨h.1, fun e he => by rcases h.2 e he with h | h <;> omega⟩
 ·refine ⟨?_, fun e he => ?_⟩
  ·show (st.edges ++ [_]).Pairwise _
   rw [List.pairwise_append]
   refine ⟨h.1, by simp, fun a ha b hb => ?_⟩
   rw [List.mem_singleton] at hb
   subst hb
   rcases h.2 a ha with h | h
   ·exact .inl h
   ·exact .inr ⟨h.1, by show a.lab < (k : Int) + 1; omega⟩
  ·rcases List.mem_append.1 he with he | he
   ·rcases h.2 e he with h | h <;> omega
   ·rw [List.mem_singleton] at he
    subst he
    exact .inr ⟨rfl, Int.le_refl _⟩
theorem EdgesUp.mid {t : Lts} {i : Nat} {cur : List Int} {st : DNet} (h : EdgesUp i 0 st.edges) : ∀ j : Nat, EdgesUp i j (dmid t i cur st j).edges
 | 0 => by rw [dmid_zero]; exact h
 | j + 1 => by
  rw [dmid_succ]
  exact (EdgesUp.mid h j).step
theorem EdgesUp.at (t : Lts) : ∀ n : Nat, EdgesUp n 0 (dAt t n).edges
 | 0 => ⟨by simp [dAt], by simp [dAt]⟩
 | n + 1 => by
  have h := EdgesUp.at t n
  rw [dAt]
  unfold drow
  split
  ·exact ⟨h.1, fun e he => by rcases h.2 e he with h | h <;> omega⟩
  ·have h2 := EdgesUp.mid (t := t) (cur := by assumption) h (t.labels.length - 1)
   exact ⟨h2.1, fun e he => by rcases h2.2 e he with h | h <;> omega⟩

end Go.Proofs.YtpoleaekcjjedaaGreatDoor

namespace Go.Proofs.YtpoleaekcjjedaaGreatDoor
open Go Go.RowKit

/-- The deterministic system of the net found. -/
def dSys (t : Lts) (st : DNet) : Lts := ⟨st.rows.length, 0, t.labels, st.edges⟩

/-- A trace, and the state behind it. -/
structure TNode where
 at_ : Int
 tr : List ByteArray
def tnew (d : Lts) (p : TNode) (e : Edge) : TNode := ⟨e.dst, p.tr ++ [labAt d e]⟩
def trow (d : Lts) (n : Int) (p : TNode) : List TNode := if (p.tr.length : Int) = n then [] else (outOf d p.at_).map (tnew d p)
/-- The traces when the first i are done. -/
def trAt (d : Lts) (n : Int) : Nat → List TNode
 | 0 => [⟨0, []⟩]
 | i + 1 => trAt d n i ++ (((trAt d n i)[i]?.map (trow d n)).getD [])
def TCome (d : Lts) (n : Int) (i : Nat) : Prop := ∀ k, k < i → k < (trAt d n k).length
def TFull (d : Lts) (n : Int) : Prop := ∃ i, TCome d n i ∧ 200 < (trAt d n i).length
def TFound (d : Lts) (n : Int) (l : List TNode) : Prop := ∃ i, TCome d n i ∧ trAt d n i = l ∧ l.length = i ∧ l.length ≤ 200
theorem trAt_zero (d : Lts) (n : Int) : trAt d n 0 = [⟨0, []⟩] := rfl
theorem trAt_succ {d : Lts} {n : Int} {i : Nat} {p : TNode} (h : (trAt d n i)[i]? = some p) : trAt d n (i + 1) = trAt d n i ++ trow d n p := by rw [trAt, h]; rfl
theorem trAt_le (d : Lts) (n : Int) (i : Nat) : ∀ k, ∃ r, trAt d n (i + k) = trAt d n i ++ r
 | 0 => ⟨[], by simp⟩
 | k + 1 => by
  obtain ⟨r, hr⟩ := trAt_le d n i k
  exact ⟨_, by rw [← Nat.add_assoc, trAt, hr, List.append_assoc]⟩
theorem TCome.zero (d : Lts) (n : Int) : TCome d n 0 := fun _ h => absurd h (Nat.not_lt_zero _)
theorem TCome.succ {d : Lts} {n : Int} {i : Nat} (h : TCome d n i) (hi : i < (trAt d n i).length) : TCome d n (i + 1) := fun k hk => by
 by_cases e : k = i
 ·rw [e]; exact hi
 ·exact h k (by omega)
theorem TFound.unique {d : Lts} {n : Int} {a b : List TNode} (ha : TFound d n a) (hb : TFound d n b) : a = b := by
 obtain ⟨m, hm, em, lm, -⟩ := ha
 obtain ⟨k, hk, ek, lk, -⟩ := hb
 rcases Nat.lt_trichotomy m k with h | h | h
 ·have := hk m h
  rw [em] at this
  omega
 ·subst h
  exact em.symm.trans ek
 ·have := hm k h
  rw [ek] at this
  omega
theorem TFound.not_full {d : Lts} {n : Int} {a : List TNode} (ha : TFound d n a) : ¬ TFull d n := by
 rintro ⟨k, hk, h2⟩
 obtain ⟨m, hm, em, lm, h3⟩ := ha
 rcases Nat.lt_or_ge m k with h | h
 ·have := hk m h
  rw [em] at this
  omega
 ·obtain ⟨r, hr⟩ := trAt_le d n k (m - k)
  rw [show k + (m - k) = m from by omega, em] at hr
  rw [hr, List.length_append] at h3
  omega
theorem TCome.le {d : Lts} {n : Int} {i : Nat} (h : TCome d n i) : i ≤ (trAt d n i).length := by
 cases i with
 | zero => omega
 | succ m =>
  have h2 := h m (by omega)
  obtain ⟨r, hr⟩ := trAt_le d n m 1
  rw [hr, List.length_append]
  omega
theorem TFound.of {d : Lts} {n : Int} {i : Nat} (h : TCome d n i) (hi : ¬ i < (trAt d n i).length) (h2 : (trAt d n i).length ≤ 200) : TFound d n (trAt d n i) := ⟨i, h, rfl, by have := h.le; omega, h2⟩

/-- What holds of each trace found. -/
structure TGood (d : Lts) (n : Int) (p : TNode) : Prop where
 at0 : 0 ≤ p.at_
 at1 : p.at_ < d.states
 len : (p.tr.length : Int) ≤ n
theorem TGood.at {d : Lts} {n : Int} (hn : 0 ≤ n) (h1 : 1 ≤ d.states) (hE : ∀ e ∈ d.edges, 0 ≤ e.dst ∧ e.dst < d.states) : ∀ i, ∀ p ∈ trAt d n i, TGood d n p
 | 0, p, hp => by
  rw [trAt_zero, List.mem_singleton] at hp
  subst hp
  exact ⟨Int.le_refl _, by show (0 : Int) < _; omega, by simpa using hn⟩
 | i + 1, p, hp => by
  rw [trAt] at hp
  rcases List.mem_append.1 hp with hp | hp
  ·exact TGood.at hn h1 hE i p hp
  ·cases h : (trAt d n i)[i]? with
   | none => rw [h] at hp; simp at hp
   | some q =>
    rw [h] at hp
    simp only [Option.map_some, Option.getD_some] at hp
    unfold trow at hp
    split at hp
    ·simp at hp
    ·next hne =>
     obtain ⟨e, he, rfl⟩ := List.mem_map.1 hp
     have hq := TGood.at hn h1 hE i q (List.mem_of_getElem? h)
     have hm := hE e ((List.mem_filter.1 he).1)
     refine ⟨hm.1, hm.2, ?_⟩
     have := hq.len
     simp only [tnew, List.length_append, List.length_singleton]
     omega

/-- The traces and the error's code. -/
def TracesIs (t : Lts) (q : Int) (xs : List (List ByteArray)) (code : Int) : Prop :=
 (¬ Valid t ∧ xs = [] ∧ code = 1) ∨ (Valid t ∧ ¬ (0 ≤ q ∧ q ≤ 12) ∧ xs = [] ∧ code = 2) ∨ (Valid t ∧ (0 ≤ q ∧ q ≤ 12) ∧ DFull t ∧ xs = [] ∧ code = 5)
  ∨ (Valid t ∧ (0 ≤ q ∧ q ≤ 12) ∧ ∃ st, DOk t st ∧ ((TFull (dSys t st) q ∧ xs = [] ∧ code = 5) ∨ ∃ l, TFound (dSys t st) q l ∧ xs = l.map TNode.tr ∧ code = 0))
theorem TracesIs.unique {t : Lts} {q code code' : Int} {c c' : List (List ByteArray)} (h : TracesIs t q c code) (k : TracesIs t q c' code') : c = c' ∧ code = code' := by
 rcases h with ⟨h1, h2, h3⟩ | ⟨h1, h2, h3, h4⟩ | ⟨h1, h2, h3, h4, h5⟩ | ⟨h1, h2, st, h3, h4⟩ <;>
  rcases k with ⟨k1, k2, k3⟩ | ⟨k1, k2, k3, k4⟩ | ⟨k1, k2, k3, k4, k5⟩ | ⟨k1, k2, st', k3, k4⟩ <;>
  first
  | exact absurd k1 h1
  | exact absurd h1 k1
  | exact absurd k2 h2
  | exact absurd h2 k2
  | exact absurd k3 h3.not_full
  | exact absurd h3 k3.not_full
  | exact ⟨h2.trans k2.symm, h3.trans k3.symm⟩
  | exact ⟨h3.trans k3.symm, h4.trans k4.symm⟩
  | exact ⟨h4.trans k4.symm, h5.trans k5.symm⟩
  | skip
 have e := h3.1.unique k3.1
 subst e
 rcases h4 with ⟨a1, a2, a3⟩ | ⟨l, a1, a2, a3⟩ <;> rcases k4 with ⟨b1, b2, b3⟩ | ⟨l', b1, b2, b3⟩
 ·exact ⟨a2.trans b2.symm, a3.trans b3.symm⟩
 ·exact absurd a1 b1.not_full
 ·exact absurd b1 a1.not_full
 ·have := a1.unique b1
  subst this
  exact ⟨a2.trans b2.symm, a3.trans b3.symm⟩
theorem TracesIs.few {t : Lts} {q code : Int} {xs : List (List ByteArray)} (h : TracesIs t q xs code) : xs.length ≤ 200 ∧ ∀ x ∈ xs, x.length ≤ 12 := by
 rcases h with ⟨h1, rfl, -⟩ | ⟨h1, h2, rfl, -⟩ | ⟨h1, h2, h3, rfl, -⟩ | ⟨h1, h2, st, h3, ⟨h4, rfl, -⟩ | ⟨l, h4, rfl, -⟩⟩
 ·exact ⟨by simp, by simp⟩
 ·exact ⟨by simp, by simp⟩
 ·exact ⟨by simp, by simp⟩
 ·exact ⟨by simp, by simp⟩
 ·have hG : DGood t st := by
   obtain ⟨⟨n, -, rfl, -⟩, -⟩ := h3
   exact DGood.at h1 n
  obtain ⟨i, hc, rfl, hl, hl2⟩ := h4
  refine ⟨by simpa using hl2, fun x hx => ?_⟩
  obtain ⟨p, hp, rfl⟩ := List.mem_map.1 hx
  have := (TGood.at (d := dSys t st) h2.1 (by have := hG.some; show (1 : Int) ≤ (st.rows.length : Int); omega) (fun e he => by have := hG.edges e he; exact this.2.2) i p hp).len
  omega

/-- The edges from a state up to a label. -/
def outTo (d : Lts) (x : Int) (k : Nat) : List Edge := (outOf d x).filter fun e => decide (e.lab < (k : Int))
theorem outTo_all {d : Lts} {x : Int} (h : ∀ e ∈ d.edges, e.lab < (d.labels.length : Int)) : outTo d x d.labels.length = outOf d x := by
 unfold outTo
 rw [List.filter_eq_self]
 intro e he
 have := h e ((List.mem_filter.1 he).1)
 simpa using this
theorem outTo_one {d : Lts} {x : Int} (h : ∀ e ∈ d.edges, 1 ≤ e.lab) : outTo d x 1 = [] := by
 unfold outTo
 rw [List.filter_eq_nil_iff]
 intro e he
 have := h e ((List.mem_filter.1 he).1)
 simp
 omega
/-- In a list with ascending labels: what comes in with the next label. -/
theorem filter_next {k : Int} : ∀ {l : List Edge}, l.Pairwise (fun a b => a.lab < b.lab) → l.filter (fun e => decide (e.lab < k + 1)) = l.filter (fun e => decide (e.lab < k)) ++ (l.find? fun e => e.lab == k).toList
 | [], _ => rfl
 | a :: l, h => by
  rw [List.pairwise_cons] at h
  rcases Int.lt_trichotomy a.lab k with h1 | h1 | h1
  ·rw [List.filter_cons, if_pos (by simp; omega), List.filter_cons, if_pos (by simp; omega), List.find?_cons, filter_next h.2]
   have : (a.lab == k) = false := by rw [beq_eq_false_iff_ne]; omega
   rw [this]
   rfl
  ·have e1 : l.filter (fun e => decide (e.lab < k + 1)) = [] := by
    rw [List.filter_eq_nil_iff]
    intro e he
    have := h.1 e he
    simp
    omega
   have e2 : l.filter (fun e => decide (e.lab < k)) = [] := by
    rw [List.filter_eq_nil_iff]
    intro e he
    have := h.1 e he
    simp
    omega
   have e3 : (a.lab == k) = true := by rw [beq_iff_eq]; exact h1
   rw [List.filter_cons, if_pos (by simp; omega), e1, List.filter_cons, if_neg (by simp; omega), e2, List.find?_cons, e3]
   rfl
  ·have e1 : (a :: l).filter (fun e => decide (e.lab < k + 1)) = [] := by
    rw [List.filter_eq_nil_iff]
    intro e he
    have : k < e.lab := by
     rcases List.mem_cons.1 he with rfl | he
     ·exact h1
     ·have := h.1 e he; omega
    simp
    omega
   have e2 : (a :: l).filter (fun e => decide (e.lab < k)) = [] := by
    rw [List.filter_eq_nil_iff]
    intro e he
    have : k < e.lab := by
     rcases List.mem_cons.1 he with rfl | he
     ·exact h1
     ·have := h.1 e he; omega
    simp
    omega
   have e3 : (a :: l).find? (fun e => e.lab == k) = none := by
    rw [List.find?_eq_none]
    intro e he
    have : k < e.lab := by
     rcases List.mem_cons.1 he with rfl | he
     ·exact h1
     ·have := h.1 e he; omega
    simp
    omega
   rw [e1, e2, e3]
   rfl
theorem out_up {d : Lts} (h : d.edges.Pairwise fun a b => a.src < b.src ∨ (a.src = b.src ∧ a.lab < b.lab)) (x : Int) : (outOf d x).Pairwise fun a b => a.lab < b.lab := by
 unfold outOf
 rw [List.pairwise_filter]
 refine h.imp fun {a b} hab ha hb => ?_
 rw [beq_iff_eq] at ha hb
 omega

end Go.Proofs.YtpoleaekcjjedaaGreatDoor
