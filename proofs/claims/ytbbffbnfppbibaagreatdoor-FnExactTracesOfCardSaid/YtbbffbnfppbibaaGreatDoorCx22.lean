/-
  The traces of a deterministic system in the order found. Plain definitions; no program in sight.
  The deterministic system of a valid one is valid and deterministic. Plain.
  What the implementation's traceCode computes.
  The implementation's CountTraces.
-/
import Derived.Test.YtbbffbnfppbibaaGreatDoorCx9
import Derived.Test.YtbbffbnfppbibaaGreatDoorCx17
import Derived.Test.YtbbffbnfppbibaaGreatDoorCx21
namespace Go.Proofs.YtbbffbnfppbibaaGreatDoor
open Go Go.RowKit

/-- The deterministic system of the net found. -/
def dSys (t : Lts) (st : DNet) : Lts := ⟨st.rows.length, 0, t.labels, st.edges⟩

/-- A trace, and the state behind it. -/
structure TNode where
  at_ : Int
  tr : List ByteArray
def tnew (d : Lts) (p : TNode) (e : Edge) : TNode := ⟨e.dst, p.tr ++ [labAt d e]⟩
def trow (d : Lts) (n : Int) (p : TNode) : List TNode := if (p.tr.length : Int) = n then [] else (outOf d p.at_).map (tnew d p)
/-- The traces when the first i are done. -/
def trAt (d : Lts) (n : Int) : Nat → List TNode
  | 0 => [⟨0, []⟩]
  | i + 1 => trAt d n i ++ (((trAt d n i)[i]?.map (trow d n)).getD [])
def TCome (d : Lts) (n : Int) (i : Nat) : Prop := ∀ k, k < i → k < (trAt d n k).length
def TFull (d : Lts) (n : Int) : Prop := ∃ i, TCome d n i ∧ 200 < (trAt d n i).length
def TFound (d : Lts) (n : Int) (l : List TNode) : Prop := ∃ i, TCome d n i ∧ trAt d n i = l ∧ l.length = i ∧ l.length ≤ 200
theorem trAt_zero (d : Lts) (n : Int) : trAt d n 0 = [⟨0, []⟩] := rfl
theorem trAt_succ {d : Lts} {n : Int} {i : Nat} {p : TNode} (h : (trAt d n i)[i]? = some p) : trAt d n (i + 1) = trAt d n i ++ trow d n p := by rw [trAt, h]; rfl
theorem trAt_le (d : Lts) (n : Int) (i : Nat) : ∀ k, ∃ r, trAt d n (i + k) = trAt d n i ++ r
  | 0 => ⟨[], by simp⟩
  | k + 1 => by
    obtain ⟨r, hr⟩ := trAt_le d n i k
    exact ⟨_, by rw [← Nat.add_assoc, trAt, hr, List.append_assoc]⟩
theorem TCome.zero (d : Lts) (n : Int) : TCome d n 0 := fun _ h => absurd h (Nat.not_lt_zero _)
theorem TCome.succ {d : Lts} {n : Int} {i : Nat} (h : TCome d n i) (hi : i < (trAt d n i).length) : TCome d n (i + 1) := fun k hk => by
  by_cases e : k = i
  · rw [e]; exact hi
  · exact h k (by omega)
theorem TFound.unique {d : Lts} {n : Int} {a b : List TNode} (ha : TFound d n a) (hb : TFound d n b) : a = b := by
  obtain ⟨m, hm, em, lm, -⟩ := ha
  obtain ⟨k, hk, ek, lk, -⟩ := hb
  rcases Nat.lt_trichotomy m k with h | h | h
  · have := hk m h
    rw [em] at this
    omega
  · subst h
    exact em.symm.trans ek
  · have := hm k h
    rw [ek] at this
    omega
theorem TFound.not_full {d : Lts} {n : Int} {a : List TNode} (ha : TFound d n a) : ¬ TFull d n := by
  rintro ⟨k, hk, h2⟩
  obtain ⟨m, hm, em, lm, h3⟩ := ha
  rcases Nat.lt_or_ge m k with h | h
  · have := hk m h
    rw [em] at this
    omega
  · obtain ⟨r, hr⟩ := trAt_le d n k (m - k)
    rw [show k + (m - k) = m from by omega, em] at hr
    rw [hr, List.length_append] at h3
    omega
theorem TCome.le {d : Lts} {n : Int} {i : Nat} (h : TCome d n i) : i ≤ (trAt d n i).length := by
  cases i with
  | zero => omega
  | succ m =>
    have h2 := h m (by omega)
    obtain ⟨r, hr⟩ := trAt_le d n m 1
    rw [hr, List.length_append]
    omega
theorem TFound.of {d : Lts} {n : Int} {i : Nat} (h : TCome d n i) (hi : ¬ i < (trAt d n i).length) (h2 : (trAt d n i).length ≤ 200) : TFound d n (trAt d n i) := ⟨i, h, rfl, by have := h.le; omega, h2⟩

/-- What holds of each trace found. -/
structure TGood (d : Lts) (n : Int) (p : TNode) : Prop where
  at0 : 0 ≤ p.at_
  at1 : p.at_ < d.states
  len : (p.tr.length : Int) ≤ n
theorem TGood.at {d : Lts} {n : Int} (hn : 0 ≤ n) (h1 : 1 ≤ d.states) (hE : ∀ e ∈ d.edges, 0 ≤ e.dst ∧ e.dst < d.states) : ∀ i, ∀ p ∈ trAt d n i, TGood d n p
  | 0, p, hp => by
    rw [trAt_zero, List.mem_singleton] at hp
    subst hp
    exact ⟨Int.le_refl _, by show (0 : Int) < _; omega, by simpa using hn⟩
  | i + 1, p, hp => by
    rw [trAt] at hp
    rcases List.mem_append.1 hp with hp | hp
    · exact TGood.at hn h1 hE i p hp
    · cases h : (trAt d n i)[i]? with
      | none => rw [h] at hp; simp at hp
      | some q =>
        rw [h] at hp
        simp only [Option.map_some, Option.getD_some] at hp
        unfold trow at hp
        split at hp
        · simp at hp
        · next hne =>
          obtain ⟨e, he, rfl⟩ := List.mem_map.1 hp
          have hq := TGood.at hn h1 hE i q (List.mem_of_getElem? h)
          have hm := hE e ((List.mem_filter.1 he).1)
          refine ⟨hm.1, hm.2, ?_⟩
          have := hq.len
          simp only [tnew, List.length_append, List.length_singleton]
          omega

/-- The traces and the error's code. -/
def TracesIs (t : Lts) (q : Int) (xs : List (List ByteArray)) (code : Int) : Prop :=
  (¬ Valid t ∧ xs = [] ∧ code = 1) ∨ (Valid t ∧ ¬ (0 ≤ q ∧ q ≤ 12) ∧ xs = [] ∧ code = 2) ∨ (Valid t ∧ (0 ≤ q ∧ q ≤ 12) ∧ DFull t ∧ xs = [] ∧ code = 5)
    ∨ (Valid t ∧ (0 ≤ q ∧ q ≤ 12) ∧ ∃ st, DOk t st ∧ ((TFull (dSys t st) q ∧ xs = [] ∧ code = 5) ∨ ∃ l, TFound (dSys t st) q l ∧ xs = l.map TNode.tr ∧ code = 0))
theorem TracesIs.unique {t : Lts} {q code code' : Int} {c c' : List (List ByteArray)} (h : TracesIs t q c code) (k : TracesIs t q c' code') : c = c' ∧ code = code' := by
  rcases h with ⟨h1, h2, h3⟩ | ⟨h1, h2, h3, h4⟩ | ⟨h1, h2, h3, h4, h5⟩ | ⟨h1, h2, st, h3, h4⟩ <;>
    rcases k with ⟨k1, k2, k3⟩ | ⟨k1, k2, k3, k4⟩ | ⟨k1, k2, k3, k4, k5⟩ | ⟨k1, k2, st', k3, k4⟩ <;>
    first
    | exact absurd k1 h1
    | exact absurd h1 k1
    | exact absurd k2 h2
    | exact absurd h2 k2
    | exact absurd k3 h3.not_full
    | exact absurd h3 k3.not_full
    | exact ⟨h2.trans k2.symm, h3.trans k3.symm⟩
    | exact ⟨h3.trans k3.symm, h4.trans k4.symm⟩
    | exact ⟨h4.trans k4.symm, h5.trans k5.symm⟩
    | skip
  have e := h3.1.unique k3.1
  subst e
  rcases h4 with ⟨a1, a2, a3⟩ | ⟨l, a1, a2, a3⟩ <;> rcases k4 with ⟨b1, b2, b3⟩ | ⟨l', b1, b2, b3⟩
  · exact ⟨a2.trans b2.symm, a3.trans b3.symm⟩
  · exact absurd a1 b1.not_full
  · exact absurd b1 a1.not_full
  · have := a1.unique b1
    subst this
    exact ⟨a2.trans b2.symm, a3.trans b3.symm⟩
theorem TracesIs.few {t : Lts} {q code : Int} {xs : List (List ByteArray)} (h : TracesIs t q xs code) : xs.length ≤ 200 ∧ ∀ x ∈ xs, x.length ≤ 12 := by
  rcases h with ⟨h1, rfl, -⟩ | ⟨h1, h2, rfl, -⟩ | ⟨h1, h2, h3, rfl, -⟩ | ⟨h1, h2, st, h3, ⟨h4, rfl, -⟩ | ⟨l, h4, rfl, -⟩⟩
  · exact ⟨by simp, by simp⟩
  · exact ⟨by simp, by simp⟩
  · exact ⟨by simp, by simp⟩
  · exact ⟨by simp, by simp⟩
  · have hG : DGood t st := by
      obtain ⟨⟨n, -, rfl, -⟩, -⟩ := h3
      exact DGood.at h1 n
    obtain ⟨i, hc, rfl, hl, hl2⟩ := h4
    refine ⟨by simpa using hl2, fun x hx => ?_⟩
    obtain ⟨p, hp, rfl⟩ := List.mem_map.1 hx
    have := (TGood.at (d := dSys t st) h2.1 (by have := hG.some; show (1 : Int) ≤ (st.rows.length : Int); omega) (fun e he => by have := hG.edges e he; exact this.2.2) i p hp).len
    omega

/-- The edges from a state up to a label. -/
def outTo (d : Lts) (x : Int) (k : Nat) : List Edge := (outOf d x).filter fun e => decide (e.lab < (k : Int))
theorem outTo_all {d : Lts} {x : Int} (h : ∀ e ∈ d.edges, e.lab < (d.labels.length : Int)) : outTo d x d.labels.length = outOf d x := by
  unfold outTo
  rw [List.filter_eq_self]
  intro e he
  have := h e ((List.mem_filter.1 he).1)
  simpa using this
theorem outTo_one {d : Lts} {x : Int} (h : ∀ e ∈ d.edges, 1 ≤ e.lab) : outTo d x 1 = [] := by
  unfold outTo
  rw [List.filter_eq_nil_iff]
  intro e he
  have := h e ((List.mem_filter.1 he).1)
  simp
  omega
/-- In a list with ascending labels: what comes in with the next label. -/
theorem filter_next {k : Int} : ∀ {l : List Edge}, l.Pairwise (fun a b => a.lab < b.lab) → l.filter (fun e => decide (e.lab < k + 1)) = l.filter (fun e => decide (e.lab < k)) ++ (l.find? fun e => e.lab == k).toList
  | [], _ => rfl
  | a :: l, h => by
    rw [List.pairwise_cons] at h
    rcases Int.lt_trichotomy a.lab k with h1 | h1 | h1
    · rw [List.filter_cons, if_pos (by simp; omega), List.filter_cons, if_pos (by simp; omega), List.find?_cons, filter_next h.2]
      have : (a.lab == k) = false := by rw [beq_eq_false_iff_ne]; omega
      rw [this]
      rfl
    · have e1 : l.filter (fun e => decide (e.lab < k + 1)) = [] := by
        rw [List.filter_eq_nil_iff]
        intro e he
        have := h.1 e he
        simp
        omega
      have e2 : l.filter (fun e => decide (e.lab < k)) = [] := by
        rw [List.filter_eq_nil_iff]
        intro e he
        have := h.1 e he
        simp
        omega
      have e3 : (a.lab == k) = true := by rw [beq_iff_eq]; exact h1
      rw [List.filter_cons, if_pos (by simp; omega), e1, List.filter_cons, if_neg (by simp; omega), e2, List.find?_cons, e3]
      rfl
    · have e1 : (a :: l).filter (fun e => decide (e.lab < k + 1)) = [] := by
        rw [List.filter_eq_nil_iff]
        intro e he
        have : k < e.lab := by
          rcases List.mem_cons.1 he with rfl | he
          · exact h1
          · have := h.1 e he; omega
        simp
        omega
      have e2 : (a :: l).filter (fun e => decide (e.lab < k)) = [] := by
        rw [List.filter_eq_nil_iff]
        intro e he
        have : k < e.lab := by
          rcases List.mem_cons.1 he with rfl | he
          · exact h1
          · have := h.1 e he; omega
        simp
        omega
      have e3 : (a :: l).find? (fun e => e.lab == k) = none := by
        rw [List.find?_eq_none]
        intro e he
        have : k < e.lab := by
          rcases List.mem_cons.1 he with rfl | he
          · exact h1
          · have := h.1 e he; omega
        simp
        omega
      rw [e1, e2, e3]
      rfl
theorem out_up {d : Lts} (h : d.edges.Pairwise fun a b => a.src < b.src ∨ (a.src = b.src ∧ a.lab < b.lab)) (x : Int) : (outOf d x).Pairwise fun a b => a.lab < b.lab := by
  unfold outOf
  rw [List.pairwise_filter]
  refine h.imp fun {a b} hab ha hb => ?_
  rw [beq_iff_eq] at ha hb
  omega

end Go.Proofs.YtbbffbnfppbibaaGreatDoor

namespace Go.Proofs.YtbbffbnfppbibaaGreatDoor
open Go Go.RowKit

theorem dok_good {t : Lts} {st : DNet} (hv : Valid t) (h : DOk t st) : DGood t st := by
  obtain ⟨⟨n, -, rfl, -⟩, -⟩ := h
  exact DGood.at hv n
theorem dok_up {t : Lts} {st : DNet} (h : DOk t st) : Up st.edges := by
  obtain ⟨⟨n, -, rfl, -⟩, -⟩ := h
  exact up_at t n
theorem dSys_edge {t : Lts} {st : DNet} (hG : DGood t st) : ∀ i (h : i < (dSys t st).edges.length), EdgeOk (dSys t st) (dSys t st).edges[i] := by
  intro i hi
  have := hG.edges _ (List.getElem_mem hi)
  exact ⟨this.1.1, this.1.2, this.2.2.1, this.2.2.2, Int.le_trans (by decide) this.2.1.1, this.2.1.2⟩
theorem dSys_valid {t : Lts} {st : DNet} (hv : Valid t) (h : DOk t st) : Valid (dSys t st) := by
  have hG := dok_good hv h
  have hu := dok_up h
  have h0 := hG.some
  have hs := h.2
  refine ⟨by show (1 : Int) ≤ (st.rows.length : Int); omega, by show (st.rows.length : Int) ≤ 40; have := hs.1; omega, Int.le_refl 0, by show (0 : Int) < (st.rows.length : Int); omega, hv.labels, hs.2, dSys_edge hG, fun i hi => ?_⟩
  have h1 := List.pairwise_iff_getElem.1 (rise_up hu) i (i + 1) (Nat.lt_of_succ_lt hi) hi (Nat.lt_succ_self i)
  exact h1
theorem dSys_single {t : Lts} {st : DNet} (hv : Valid t) (h : DOk t st) : Single (dSys t st) := by
  have hG := dok_good hv h
  have hu := dok_up h
  have h1 : ∀ i (hi : i < st.edges.length), st.edges[i].lab ≠ 0 := fun i hi => by
    have := (hG.edges _ (List.getElem_mem hi)).2.1.1
    omega
  have h2 : ∀ i (hi : i + 1 < st.edges.length), ¬ (st.edges[i + 1].src = st.edges[i].src ∧ st.edges[i + 1].lab = st.edges[i].lab) := fun i hi => by
    have := List.pairwise_iff_getElem.1 hu i (i + 1) (Nat.lt_of_succ_lt hi) hi (Nat.lt_succ_self i)
    omega
  exact ⟨h1, h2⟩

end Go.Proofs.YtbbffbnfppbibaaGreatDoor

namespace Go.Proofs.YtbbffbnfppbibaaGreatDoor
open Go Go.RowKit

theorem tcode_results {w : World} {b : Nat} {v0 v1 v2 v3 : Value} {tmps : Array Value} (hc : tmps.getD 4 undef = .pointer (some ⟨b, 0, none⟩)) (hb : Blk w b [v0, v1, v2, v3] 31) :
    (results Tryz.f42 tmps).run Tryz.prog w = .ok (.tuple #[.agg #[v0, v1, v2, v3], tmps.getD 5 undef]) w := by
  have h0 := hb.cell 0 rfl
  have h1 := hb.cell 1 rfl
  have h2 := hb.cell 2 rfl
  have h3 := hb.cell 3 rfl
  simp only [Array.getD_eq_getD_getElem?] at hc
  simp [results, Tryz.results42, go_sem, hc, h0, h1, h2, h3, Result.andThen]

/-- What traceCode returns. -/
def RetTCode (t : Lts) (q : Int) (w : World) (e : Ending) (w' : World) : Prop :=
  Below w.heap.size w w' ∧ ((¬ Valid t ∧ e = .returned (.tuple #[.agg #[.int .i64 0, .int .i64 0, .slice none 0 0, .slice none 0 0], .int .i64 1])) ∨ (Valid t ∧ ¬ (0 ≤ q ∧ q ≤ 12) ∧ e = .returned (.tuple #[.agg #[.int .i64 0, .int .i64 0, .slice none 0 0, .slice none 0 0], .int .i64 2])) ∨ (Valid t ∧ (0 ≤ q ∧ q ≤ 12) ∧ DFull t ∧ e = .returned (.tuple #[.agg #[.int .i64 0, .int .i64 0, .slice none 0 0, .slice none 0 0], .int .i64 5]))
    ∨ (Valid t ∧ (0 ≤ q ∧ q ≤ 12) ∧ ∃ (st : DNet) (lv ve : Value), DOk t st ∧ e = .returned (.tuple #[.agg #[.int .i64 st.rows.length, .int .i64 0, lv, ve], .int .i64 0]) ∧ w'.ownsRow w.heap.size 62 3 ve st.edges.length (st.edges.flatMap encE) ∧ w'.ownsRow w.heap.size 9 1 lv t.labels.length (t.labels.map .string)))

set_option maxRecDepth 100000 in
set_option maxHeartbeats 4000000 in
theorem traceCode_any (lo : Nat) (t : Lts) (lv ev : Value) (q : Int) (w : World) (hsh : Short20 t.labels) (hl : SliceK 1 encS lo w lv t.labels) (he : SliceK 3 encE lo w ev t.edges) (g : Glob w) :
    Calls Tryz.prog 42 #[.agg #[.int .i64 t.states, .int .i64 t.initial, lv, ev], .int .i64 q] w (RetTCode t q w) := by
  obtain ⟨tb, htb⟩ : ∃ tb, tb = w.heap.size := ⟨_, rfl⟩
  obtain ⟨wA, hwA⟩ : ∃ wA, wA = (w.alloc (.cells #[.int .i64 t.states, .int .i64 t.initial, lv, ev] 31)).alloc (.cells #[.int .i64 0, .int .i64 0, .slice none 0 0, .slice none 0 0] 31) := ⟨_, rfl⟩
  have hbA : Below w.heap.size w wA := by rw [hwA]; exact ((Below.refl _ _).alloc (Nat.le_refl _) _).alloc (by simp) _
  have hT : Blk wA tb [.int .i64 t.states, .int .i64 t.initial, lv, ev] 31 := by rw [hwA, htb]; exact (Blk.new w _ _).alloc _
  have hR : Blk wA (tb + 1) [.int .i64 0, .int .i64 0, .slice none 0 0, .slice none 0 0] 31 := by
    have := Blk.new (w.alloc (.cells #[.int .i64 t.states, .int .i64 t.initial, lv, ev] 31)) [.int .i64 0, .int .i64 0, .slice none 0 0, .slice none 0 0] 31
    rw [World.size_alloc, ← htb] at this
    rw [hwA]
    exact this
  have HSH := Lib.hid hsh
  have HL := Lib.hid (hl.below hbA)
  have HE := Lib.hid (he.below hbA)
  have HG := Lib.hid (g.below hbA)
  have HBA := Lib.hid hbA
  have HT := Lib.hid hT
  have HR := Lib.hid hR
  have HWA := Lib.hid hwA
  have HTB := Lib.hid htb
  have hsW : w.heap.size ≤ wA.heap.size := hbA.size
  have hle : w.heap.size ≤ tb + 1 := by rw [htb]; omega
  clear hsh hl he g hwA hbA hT hR htb
  by_cases hv : Valid t
  · have HV := Lib.hid hv
    have HVA := Lib.hid (Valid_yes hv HSH.out HL.out HE.out HG.out)
    clear hv
    cases hr : inB q 0 12
    · have HRG : Hid (¬ (0 ≤ q ∧ q ≤ 12)) := by unfold inB at hr; simp only [Bool.and_eq_false_iff, decide_eq_false_iff_not] at hr; unfold Hid; omega
      have HI := Lib.hid (fun w' => within_is hr w')
      clear hr
      go_enter Tryz.func42, Tryz.ntmps42
      go_wp2_with fail
      rw [← HWA.out]
      refine Calls.mono HVA.out ?_
      rintro e w1 ⟨rfl, hb1⟩
      have HB1 := Lib.hid hb1
      have HR1 := Lib.hid (HR.out.below hb1)
      clear hb1
      go_wp2_with fail
      refine Calls.mono (HI.out _) ?_
      rintro e w2 ⟨rfl, rfl⟩
      have r0 := HR1.out.cell 0 rfl
      have r1 := HR1.out.cell 1 rfl
      have r2 := HR1.out.cell 2 rfl
      have r3 := HR1.out.cell 3 rfl
      have s0 := HR1.out.frozen 0
      have s1 := HR1.out.frozen 1
      have s2 := HR1.out.frozen 2
      have s3 := HR1.out.frozen 3
      rw [← HTB.out]
      go_wp2
      refine bodyPost_ret (tcode_results rfl ((((HR1.out.set 0 _).set 1 _).set 2 _).set 3 _)) rfl ?_
      exact ⟨((((HBA.out.trans (HB1.out.mono hsW)).setCell hle _).setCell hle _).setCell hle _).setCell hle _, .inr (.inl ⟨HV.out, HRG.out, rfl⟩)⟩
    · have HRG : Hid (0 ≤ q ∧ q ≤ 12) := by unfold inB at hr; simp only [Bool.and_eq_true, decide_eq_true_eq] at hr; unfold Hid; omega
      have HI := Lib.hid (fun w' => within_is hr w')
      clear hr
      go_enter Tryz.func42, Tryz.ntmps42
      go_wp2_with fail
      rw [← HWA.out]
      refine Calls.mono HVA.out ?_
      rintro e w1 ⟨rfl, hb1⟩
      have HB1 := Lib.hid hb1
      have HR1 := Lib.hid (HR.out.below hb1)
      have HT1 := Lib.hid (HT.out.below hb1)
      have t0 := HT1.out.cell 0 rfl
      have t1 := HT1.out.cell 1 rfl
      have t2 := HT1.out.cell 2 rfl
      have t3 := HT1.out.cell 3 rfl
      have HD := Lib.hid (determinize_any lo t lv ev w1 HV.out HSH.out (HL.out.below hb1) (HE.out.below hb1) (HG.out.below hb1))
      clear hb1
      rw [← HTB.out]
      go_wp2_with fail
      refine Calls.mono (HI.out _) ?_
      rintro e w2 ⟨rfl, rfl⟩
      go_wp2_with fail
      refine Calls.mono HD.out ?_
      rintro e w3 ⟨hb3, ⟨hfull, rfl⟩ | ⟨st, lvS, vr, evS, hok, rfl, hmem, hol⟩⟩
      · obtain ⟨W3, hW3⟩ : ∃ W3, W3 = w3.alloc (.cells #[.int .i64 0, .int .i64 0, .slice none 0 0, .slice none 0 0] 31) := ⟨_, rfl⟩
        have hb4 : Below w3.heap.size w3 W3 := by rw [hW3]; exact (Below.refl _ _).alloc (Nat.le_refl _) _
        have HF := Lib.hid hfull
        have HB4 := Lib.hid (HB1.out.trans ((hb3.trans (hb4.mono hb3.size)).mono HB1.out.size))
        have HR4 := Lib.hid ((HR1.out.below hb3).below hb4)
        have HW3 := Lib.hid hW3
        have r0 := HR4.out.cell 0 rfl
        have r1 := HR4.out.cell 1 rfl
        have r2 := HR4.out.cell 2 rfl
        have r3 := HR4.out.cell 3 rfl
        have s0 := HR4.out.frozen 0
        have s1 := HR4.out.frozen 1
        have s2 := HR4.out.frozen 2
        have s3 := HR4.out.frozen 3
        rw [hW3] at r0 r1 r2 r3 s0 s1 s2 s3
        clear hfull hb3 hb4 hW3 t0 t1 t2 t3
        go_wp2
        rw [← HW3.out]
        refine bodyPost_ret (tcode_results rfl ((((HR4.out.set 0 _).set 1 _).set 2 _).set 3 _)) rfl ?_
        exact ⟨((((HBA.out.trans (HB4.out.mono hsW)).setCell hle _).setCell hle _).setCell hle _).setCell hle _, .inr (.inr (.inl ⟨HV.out, HRG.out, HF.out, rfl⟩))⟩
      · obtain ⟨la, lc, rfl, -, -⟩ := owns_slice hol
        obtain ⟨ea, ec, rfl, -, -⟩ := owns_slice hmem.2
        obtain ⟨R, hRR⟩ : ∃ R, R = st.rows.length := ⟨_, rfl⟩
        obtain ⟨LN, hLN⟩ : ∃ LN, LN = t.labels.length := ⟨_, rfl⟩
        obtain ⟨EN, hEN⟩ : ∃ EN, EN = st.edges.length := ⟨_, rfl⟩
        have HME := Lib.hid hmem.2
        have HML := Lib.hid hol
        rw [← hLN] at HML
        rw [← hEN] at HME
        rw [← hRR, ← hLN, ← hEN]
        obtain ⟨W3, hW3⟩ : ∃ W3, W3 = w3.alloc (.cells #[.int .i64 R, .int .i64 0, .slice la LN lc, .slice ea EN ec] 31) := ⟨_, rfl⟩
        have hb4 : Below w3.heap.size w3 W3 := by rw [hW3]; exact (Below.refl _ _).alloc (Nat.le_refl _) _
        have HOK := Lib.hid hok
        have HB4 := Lib.hid (HB1.out.trans ((hb3.trans (hb4.mono hb3.size)).mono HB1.out.size))
        have HR4 := Lib.hid ((HR1.out.below hb3).below hb4)
        have HW3 := Lib.hid hW3
        have HRR := Lib.hid hRR
        have HLN := Lib.hid hLN
        have HEN := Lib.hid hEN
        have HME4 := Lib.hid (own_lower (owns_below HME.out hb4) (Nat.le_trans hsW HB1.out.size))
        have HML4 := Lib.hid (own_lower (owns_below HML.out hb4) (Nat.le_trans hsW HB1.out.size))
        have r0 := HR4.out.cell 0 rfl
        have r1 := HR4.out.cell 1 rfl
        have r2 := HR4.out.cell 2 rfl
        have r3 := HR4.out.cell 3 rfl
        have s0 := HR4.out.frozen 0
        have s1 := HR4.out.frozen 1
        have s2 := HR4.out.frozen 2
        have s3 := HR4.out.frozen 3
        rw [hW3] at r0 r1 r2 r3 s0 s1 s2 s3
        clear hok hb3 hb4 hW3 t0 t1 t2 t3 hmem hol hRR hLN hEN HME HML
        go_wp2
        rw [← HW3.out]
        refine bodyPost_ret (tcode_results rfl ((((HR4.out.set 0 _).set 1 _).set 2 _).set 3 _)) rfl ?_
        refine ⟨((((HBA.out.trans (HB4.out.mono hsW)).setCell hle _).setCell hle _).setCell hle _).setCell hle _, .inr (.inr (.inr ⟨HV.out, HRG.out, st, _, _, HOK.out, by rw [← HRR.out]; rfl, ?_, ?_⟩))⟩
        · rw [← HEN.out]; exact own4 HR4.out HME4.out (by decide)
        · rw [← HLN.out]; exact own4 HR4.out HML4.out (by decide)
  · have HV := Lib.hid hv
    have HVA := Lib.hid (Valid_no hv HSH.out HL.out HE.out HG.out)
    clear hv
    go_enter Tryz.func42, Tryz.ntmps42
    go_wp2_with fail
    rw [← HWA.out]
    refine Calls.mono HVA.out ?_
    rintro e w1 ⟨rfl, hb1⟩
    have HB1 := Lib.hid hb1
    have HR1 := Lib.hid (HR.out.below hb1)
    have r0 := HR1.out.cell 0 rfl
    have r1 := HR1.out.cell 1 rfl
    have r2 := HR1.out.cell 2 rfl
    have r3 := HR1.out.cell 3 rfl
    have s0 := HR1.out.frozen 0
    have s1 := HR1.out.frozen 1
    have s2 := HR1.out.frozen 2
    have s3 := HR1.out.frozen 3
    clear hb1
    rw [← HTB.out]
    go_wp2
    refine bodyPost_ret (tcode_results rfl ((((HR1.out.set 0 _).set 1 _).set 2 _).set 3 _)) rfl ?_
    exact ⟨((((HBA.out.trans (HB1.out.mono hsW)).setCell hle _).setCell hle _).setCell hle _).setCell hle _, .inl ⟨HV.out, rfl⟩⟩

end Go.Proofs.YtbbffbnfppbibaaGreatDoor

namespace Go.Proofs.YtbbffbnfppbibaaGreatDoor
open Go Go.RowKit

theorem info_intC : (Tryz.prog.info? 2).map (fun i => (i.zero, i.size, i.bytes)) = some (some (.int .i64 0), 1, 8) := by kernel_rfl

set_option maxRecDepth 100000 in
set_option maxHeartbeats 4000000 in
theorem implCountTraces_any (lo : Nat) (t : Lts) (lv ev : Value) (q : Int) (w : World) (hsh : Short20 t.labels) (hl : SliceK 1 encS lo w lv t.labels) (he : SliceK 3 encE lo w ev t.edges) (g : Glob w) :
    Calls Tryz.prog 12 #[.agg #[.int .i64 t.states, .int .i64 t.initial, lv, ev], .int .i64 q] w (RetCount t q w) := by
  obtain ⟨W, hW⟩ : ∃ W, W = w.alloc (.cells #[.int .i64 t.states, .int .i64 t.initial, lv, ev] 31) := ⟨_, rfl⟩
  have hB0 : Below w.heap.size w W := by rw [hW]; exact (Below.refl _ _).alloc (Nat.le_refl _) _
  have HTC := Lib.hid (traceCode_any lo t lv ev q W hsh (hl.below hB0) (he.below hB0) (g.below hB0))
  have HB0 := Lib.hid hB0
  have HW := Lib.hid hW
  clear hsh hl he g hB0 hW
  go_enter Tryz.func12, Tryz.ntmps12
  go_wp2_with fail
  rw [← HW.out]
  refine Calls.mono HTC.out ?_
  rintro e w1 ⟨hb1, ⟨hv, rfl⟩ | ⟨hv, hq, rfl⟩ | ⟨hv, hq, hf, rfl⟩ | ⟨hv, hq, st, lv2, ve, hok, rfl, hed, hown⟩⟩
  · have HB1 := Lib.hid (HB0.out.trans (hb1.mono HB0.out.size))
    have HV := Lib.hid hv
    clear hb1 hv HTC
    go_wp2
    go_ret2
    exact ⟨HB1.out.alloc HB1.out.size _, 0, 1, rfl, .inl ⟨HV.out, rfl, rfl⟩⟩
  · have HB1 := Lib.hid (HB0.out.trans (hb1.mono HB0.out.size))
    have HV := Lib.hid hv
    have HQ := Lib.hid hq
    clear hb1 hv HTC hq
    go_wp2
    go_ret2
    exact ⟨HB1.out.alloc HB1.out.size _, 0, 2, rfl, .inr (.inl ⟨HV.out, HQ.out, rfl, rfl⟩)⟩
  · have HB1 := Lib.hid (HB0.out.trans (hb1.mono HB0.out.size))
    have HV := Lib.hid hv
    have HQ := Lib.hid hq
    have HF := Lib.hid hf
    clear hb1 hv HTC hq hf
    go_wp2
    go_ret2
    exact ⟨HB1.out.alloc HB1.out.size _, 0, 5, rfl, .inr (.inr (.inl ⟨HV.out, HQ.out, HF.out, rfl, rfl⟩))⟩
  · have HB3 := Lib.hid hb1
    have HV := Lib.hid hv
    have HR0 := Lib.hid hq
    have HOK := Lib.hid hok
    have HG := Lib.hid (dok_good hv hok)
    have hr0 := HG.out.some
    have hr40 := hok.2.1
    have he300 := hok.2.2
    obtain ⟨al2, cl2, rfl, -, -⟩ := owns_slice hown
    obtain ⟨ae2, ce2, rfl, -, -⟩ := owns_slice hed
    obtain ⟨R, hR⟩ : ∃ R, R = st.rows.length := ⟨_, rfl⟩
    obtain ⟨E, hE⟩ : ∃ E, E = st.edges.length := ⟨_, rfl⟩
    rw [← hR] at hr0 hr40
    rw [← hE] at he300 hed
    rw [← hR, ← hE]
    have HR := Lib.hid hR
    have HE := Lib.hid hE
    obtain ⟨LL, hLL⟩ : ∃ LL, LL = t.labels.length := ⟨_, rfl⟩
    rw [← hLL]
    obtain ⟨W4, hW4⟩ : ∃ W4, W4 = w1.alloc (.cells #[.int .i64 R, .int .i64 0, .slice al2 LL cl2, .slice ae2 E ce2] 31) := ⟨_, rfl⟩
    have hb4 : Below w1.heap.size w1 W4 := by rw [hW4]; exact (Below.refl _ _).alloc (Nat.le_refl _) _
    have e4 : Blk W4 w1.heap.size [.int .i64 R, .int .i64 0, .slice al2 LL cl2, .slice ae2 E ce2] 31 := by rw [hW4]; exact Blk.new w1 _ _
    have HX4 := Lib.hid e4
    have HED := Lib.hid (owns_below hed hb4)
    have HBW := Lib.hid (HB0.out.trans ((HB3.out.trans (hb4.mono HB3.out.size)).mono HB0.out.size))
    have HW4 := Lib.hid hW4
    obtain ⟨bx, hbx⟩ : ∃ bx, bx = w1.heap.size := ⟨_, rfl⟩
    rw [← hbx] at HX4
    have HBX := Lib.hid hbx
    obtain ⟨B, hB⟩ : ∃ B, B = W4.heap.size := ⟨_, rfl⟩
    have hbxB : bx < B := by rw [hB]; exact HX4.out.lt
    have HBB := Lib.hid hB
    have HBS : Hid (B = w1.heap.size + 1) := by unfold Hid; rw [hB, hW4]; simp
    obtain ⟨i0, hi, hz0, hz1, hz2⟩ := info_parts info_intC
    clear hb1 hok hed hown hR hE hW4 hb4 e4 hbx hB hLL hv hq HTC
    go_wp2_with (at_make; refine wpList_make_full _ rfl _ _ 60 rfl B 2 i0 _ 1 Tryz.underlying60 hi hz0 hz1 .i64 .i64 _ _ R rfl rfl rfl rfl ?_ ?_ ?_ ?_)
    · rw [hz2]; omega
    · simp [maxLen]; omega
    · rw [HBB.out, HW4.out]; exact Nat.le_refl _
    intro w5 ho hg
    rw [toList_madeCells_one] at ho
    rw [← HW4.out] at hg
    have hb5 : Below W4.heap.size W4 w5 := (Below.refl _ W4).grown hg (Nat.le_refl _) (fun _ h => by cases h)
    rw [← HBS.out] at ho ⊢
    rw [← HBB.out] at hb5
    have HB5 := Lib.hid hb5
    have HO5 : Hid (w5.ownsRow B 2 1 (.slice (some ⟨B, 0, none⟩) R R) R ((List.replicate R (0 : Int)).map (Value.int .i64))) := by
      unfold Hid; simpa using ho
    have c5 := cell_num HO5.out hr0
    have f5 := HO5.out.frozenAt 0
    have HO6 := Lib.hid (HO5.out.stored 0 (.int .i64 1)).1
    rw [← HBX.out]
    clear ho hg hb5
    go_wp2
    go_loopw [8, 30] (fun v8 v30 wr => ∃ (k g : Nat), v30 = .int .i64 k ∧ (k : Int) ≤ q ∧ v8 = .slice (some ⟨g, 0, none⟩) R R ∧ Below B W4 wr ∧ wr.ownsRow B 2 1 v8 R ((waysAt R st.edges k).map (Value.int .i64))) (fun _ v30 _ => q.toNat - (intOf v30).toNat)
    case atStart =>
      refine ⟨0, B, rfl, HR0.out.1, rfl, HB5.out.setCell (Nat.le_refl _) _, ?_⟩
      have := HO6.out
      rw [← List.map_set] at this
      exact this
    case round =>
      clear HO5 HO6 HB5 c5 f5
      obtain ⟨k, g, rfl, hkq, rfl, hbl, ho⟩ := hrel
      obtain ⟨wC, rfl⟩ : ∃ wC : World, wC = wr := ⟨_, rfl⟩
      have HBL := Lib.hid hbl
      have HO := Lib.hid ho
      have hsz := hbl.size
      rw [← HBB.out] at hsz
      have hbx2 : bx < wC.heap.size := by omega
      have HX := Lib.hid (HX4.out.belowB hbl hbxB)
      have hgw : g < wC.heap.size := (ho.lt g rfl).2
      have hwl : (waysAt R st.edges k).length = R := waysAt_len _ _ _
      clear hbl ho
      by_cases hlt : (k : Int) < q
      · have x0 := HX.out.cell 0 rfl
        have hk12 : (k : Int) < 12 := by have := HR0.out.2; omega
        go_wp2_with (at_make; refine wpList_make_full _ rfl _ _ 60 rfl wC.heap.size 2 i0 _ 1 Tryz.underlying60 hi hz0 hz1 .i64 .i64 _ _ R rfl rfl rfl rfl ?_ ?_ ?_ ?_)
        · rw [hz2]; omega
        · simp [maxLen]; omega
        · exact Nat.le_refl _
        intro w6 ho hg
        rw [toList_madeCells_one] at ho
        have hb6 : Below wC.heap.size wC w6 := (Below.refl _ wC).grown hg (Nat.le_refl _) (fun _ h => by cases h)
        have HXM := Lib.hid (HX.out.below hb6)
        have x3 := HXM.out.cell 3 rfl
        obtain ⟨G, hG⟩ : ∃ G, G = wC.heap.size := ⟨_, rfl⟩
        rw [← hG] at ho ⊢ hb6 hbx2 hgw
        have HGG := Lib.hid hG
        have HB6 := Lib.hid hb6
        have HO6 : Hid (w6.ownsRow G 2 1 (.slice (some ⟨G, 0, none⟩) R R) R ((nextTo R st.edges (waysAt R st.edges k) 0).map (Value.int .i64))) := by
          unfold Hid; rw [nextTo_zero]; simpa using ho
        clear ho hg hG hb6 x0
        go_wp2
        go_loopw [38] (fun v38 w7 => ∃ m : Nat, m ≤ E ∧ v38 = .int .i64 m ∧ Below G wC w7 ∧ w7.ownsRow G 2 1 (.slice (some ⟨G, 0, none⟩) R R) R ((nextTo R st.edges (waysAt R st.edges k) m).map (Value.int .i64))) (fun v38 _ => E - (intOf v38).toNat)
        case atStart => exact ⟨0, Nat.zero_le _, rfl, HB6.out, HO6.out⟩
        case round =>
          clear HO6 HB6 HXM x3
          obtain ⟨m, hm, rfl, hb7, ho7⟩ := hrel
          have HB7 := Lib.hid hb7
          have HO7 := Lib.hid ho7
          have hG7 : G < wr.heap.size := (ho7.lt G rfl).2
          have hg7 : g < wr.heap.size := by omega
          have HOW : Hid (wr.ownsRow B 2 1 (.slice (some ⟨g, 0, none⟩) R R) R ((waysAt R st.edges k).map (Value.int .i64))) := by
            have := HB7.out
            rw [HGG.out] at this
            exact owns_below HO.out this
          clear hb7 ho7
          by_cases hmE : m < E
          · have hme : m < st.edges.length := by rw [← HE.out]; exact hmE
            have hbw : Below W4.heap.size W4 wr := by
              have h1 := HBL.out
              rw [HBB.out] at h1
              exact h1.trans (HB7.out.mono (by rw [HGG.out, ← HBB.out]; exact hsz))
            obtain ⟨be, rfl, hbe, e1, e2, e3⟩ := own_edge20 (owns_below HED.out hbw) HE.out hme
            have hgd := HG.out.edges st.edges[m] (List.getElem_mem hme)
            rw [← HR.out] at hgd
            obtain ⟨e, hee⟩ : ∃ e, e = st.edges[m] := ⟨_, rfl⟩
            rw [← hee] at e1 e2 e3 hgd
            obtain ⟨es, hes⟩ : ∃ es : Nat, (es : Int) = e.src := ⟨e.src.toNat, by omega⟩
            obtain ⟨ed, hed⟩ : ∃ ed : Nat, (ed : Int) = e.dst := ⟨e.dst.toNat, by omega⟩
            rw [← hes] at e1
            rw [← hed] at e3
            have hesR : es < R := by omega
            have hedR : ed < R := by omega
            have ia : (es : Int) < (R : Int) := by omega
            have ib : (ed : Int) < (R : Int) := by omega
            obtain ⟨WE, hWE⟩ : ∃ WE, WE = wr.alloc (.cells #[.int .i64 es, .int .i64 e.lab, .int .i64 ed] 62) := ⟨_, rfl⟩
            have hbE : Below wr.heap.size wr WE := by rw [hWE]; exact (Below.refl _ _).alloc (Nat.le_refl _) _
            have hXE : Blk WE wr.heap.size [.int .i64 es, .int .i64 e.lab, .int .i64 ed] 62 := by rw [hWE]; exact Blk.new wr _ _
            have HOWE := Lib.hid (owns_below HOW.out hbE)
            have HOE := Lib.hid (owns_below HO7.out hbE)
            have cw := cell_num HOWE.out hesR
            have cn := cell_num HOE.out hedR
            obtain ⟨a1, ha1⟩ : ∃ a1, a1 = (waysAt R st.edges k).getD es 0 := ⟨_, rfl⟩
            obtain ⟨a2, ha2⟩ : ∃ a2, a2 = (nextTo R st.edges (waysAt R st.edges k) m).getD ed 0 := ⟨_, rfl⟩
            rw [← ha1] at cw
            rw [← ha2] at cn
            have hstep : (nextTo R st.edges (waysAt R st.edges k) m).set ed (wrap64 (a2 + a1)) = nextTo R st.edges (waysAt R st.edges k) (m + 1) := by
              rw [nextTo_succ hme, ← hee, ha1, ha2]
              unfold addWay
              rw [show e.src.toNat = es from by omega, show e.dst.toNat = ed from by omega]
            have HST := Lib.hid hstep
            have HA2 := Lib.hid ha2
            have hsE := hbE.size
            have le1 := later_cell hXE.lt (hXE.cell 0 rfl)
            have le3 := later_cell hXE.lt (hXE.cell 2 rfl)
            have lcw := later_cell (Nat.lt_of_lt_of_le hg7 hsE) cw
            have lcn := later_cell (Nat.lt_of_lt_of_le hG7 hsE) cn
            have HBE := Lib.hid (HB7.out.trans (hbE.mono (Nat.le_of_lt hG7)))
            have HWE := Lib.hid hWE
            obtain ⟨sz, hsz9⟩ : ∃ sz, sz = wr.heap.size := ⟨_, rfl⟩
            rw [← hsz9] at le1 le3
            have HSZ := Lib.hid hsz9
            obtain ⟨lb, hlb⟩ : ∃ lb, lb = e.lab := ⟨_, rfl⟩
            rw [← hlb] at HWE e2
            clear hbw hgd hee hes hed cw cn ha1 ha2 hstep hme hWE hbE hXE hsz9 hlb
            go_wp2
            rw [← HWE.out, ← HSZ.out]
            refine wp_region_later_tail 12 (by kernel_rfl) (by kernel_rfl) ?_
            simp only [List.take_succ_cons, List.take_zero, List.drop_succ_cons, List.drop_zero]
            repeat (go_big_quiet_step ((fail)))
            refine wpQuiet_nil ?_
            intro _ hw9
            obtain ⟨nl, hw8⟩ := hw9
            subst hw8
            have HB8 := Lib.hid (HBE.out.trans (nl.h.mono (Nat.le_trans (Nat.le_of_lt hG7) hsE)))
            have HO8 := Lib.hid (owns_below HOE.out nl.h)
            have c8 := cell_num HO8.out hedR
            rw [← HA2.out] at c8
            have f8 := HO8.out.frozenAt ed
            have ho9 := (HO8.out.stored ed (.int .i64 (wrap64 (a2 + a1)))).1
            rw [← List.map_set, HST.out] at ho9
            have HO9 := Lib.hid ho9
            clear le1 le3 lcw lcn ho9 e1 e2 e3
            go_wp2
            go_roundw
            case rel => exact ⟨m + 1, by omega, by go_num, HB8.out.setCell (Nat.le_refl _) _, HO9.out⟩
            case measure => simp [intOf]; omega
          · have hmE2 : m = E := by omega
            subst hmE2
            have hw : nextTo R st.edges (waysAt R st.edges k) m = waysAt R st.edges (k + 1) := by rw [waysAt, HE.out]
            have HO8 : Hid (wr.ownsRow B 2 1 (.slice (some ⟨G, 0, none⟩) R R) R ((waysAt R st.edges (k + 1)).map (Value.int .i64))) := by
              have := HO7.out
              rw [hw] at this
              exact own_lower this (by rw [HGG.out]; exact hsz)
            have HB8 := Lib.hid (HBL.out.trans (HB7.out.mono (by rw [HGG.out]; exact hsz)))
            clear hw HO7 HB7
            go_wp2
            go_roundw
            case rel => exact ⟨k + 1, G, by go_num, by omega, rfl, HB8.out, HO8.out⟩
            case measure => simp [intOf]; omega
      · have hkq2 : (k : Int) = q := by omega
        have hq := HR0.out
        have HBF := Lib.hid (HBW.out.trans (HBL.out.mono (by rw [HBB.out]; exact HBW.out.size)))
        obtain ⟨ws, hws⟩ : ∃ ws, ws = waysAt R st.edges k := ⟨_, rfl⟩
        rw [← hws] at HO hwl
        have HC : Hid (sumTo ws R = countOf st q.toNat) := by
          unfold Hid countOf
          rw [← HR.out, hws, show q.toNat = k from by omega]
        clear hkq2 hq hws
        go_wp2
        go_loop [12, 59] (fun v13 v14 => ∃ m : Nat, m ≤ R ∧ v14 = .int .i64 m ∧ v13 = .int .i64 (sumTo ws m)) (fun _ v14 => R - (intOf v14).toNat)
        case atStart => exact ⟨0, Nat.zero_le _, rfl, by rw [sumTo_zero]⟩
        case round =>
          obtain ⟨m, hm, rfl, rfl⟩ := hrel
          by_cases hmR : m < R
          · have cm := cell_num HO.out hmR
            have hml : m < ws.length := by omega
            rw [List.getD_eq_getElem?_getD, List.getElem?_eq_getElem hml, Option.getD_some] at cm
            have HS := Lib.hid (sumTo_succ hml)
            obtain ⟨x, hx⟩ : ∃ x, x = ws[m] := ⟨_, rfl⟩
            rw [← hx] at cm HS
            clear hx hml
            go_wp2
            go_round
            case rel => exact ⟨m + 1, by omega, by go_num, by rw [HS.out]⟩
            case measure => simp [intOf]; omega
          · have hmR2 : R = m := by omega
            subst hmR2
            go_wp2
            go_ret2
            exact ⟨HBF.out, _, 0, rfl, .inr (.inr (.inr ⟨HV.out, HR0.out, st, HOK.out, HC.out, rfl⟩))⟩

end Go.Proofs.YtbbffbnfppbibaaGreatDoor
