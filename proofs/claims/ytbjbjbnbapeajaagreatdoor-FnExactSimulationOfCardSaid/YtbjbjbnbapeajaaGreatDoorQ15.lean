/-
  What the implementation's ValidLts computes.
  ValidLts at a valid system, and at one that is not; boxes.
  The program's SimulationOf.
  SimulationOf: both sides' contracts in the law's order; how many numbers come back.
  The functions of the laws that mark texts, edges, a system: what they turn.
  The law helper eqInt64S on equal lists.
  The law's comparison of slices of slices of numbers, where they are the same.
-/
import Derived.Test.YtbjbjbnbapeajaaGreatDoorQ3
import Derived.Test.YtbjbjbnbapeajaaGreatDoorQ14
import Derived.Test.YtbjbjbnbapeajaaGreatDoorQ11
import Derived.Test.YtbjbjbnbapeajaaGreatDoorQ13
import Derived.Test.YtbjbjbnbapeajaaGreatDoorQ10
namespace Go.Proofs.YtbjbjbnbapeajaaGreatDoor
open Go Go.RowKit

def Short20 (ss : List ByteArray) : Prop := ∀ i (h : i < ss.length), ss[i].size ≤ 1048576

theorem within_is {n lo hi : Int} {b : Bool} (h : inB n lo hi = b) (w : World) : Calls Tryz.prog 46 #[.int .i64 n, .int .i64 lo, .int .i64 hi] w fun e w' => e = .returned (.bool b) ∧ w = w' := by
 subst h; exact within_any n lo hi w
theorem isState_is {lv ev : Value} {s i k : Int} {b : Bool} (h : inB k 0 (s - 1) = b) (w : World) (h1 : 1 ≤ s) (h2 : s ≤ 40) :
  Calls Tryz.prog 47 #[.agg #[.int .i64 s, .int .i64 i, lv, ev], .int .i64 k] w fun e w' => e = .returned (.bool b) ∧ Below w.heap.size w w' := by
 subst h; exact isState_any lv ev s i k w h1 h2
theorem IsLabel_is {s : ByteArray} {b : Bool} (h : labelOk s.data.toList = b) (w : World) (hs : s.size ≤ 1048576) (g : Glob w) :
  Calls Tryz.prog 48 #[.string s] w fun e w' => e = .returned (.bool b) ∧ Below w.heap.size w w' := by
 subst h; rw [← readOk_eq]; exact IsLabel_any s w hs g

theorem index_in (n m : Int) (w : World) (h1 : -9223372036854775807 ≤ m) (h2 : m ≤ 9223372036854775807) : Calls Tryz.prog 49 #[.int .i64 n, .int .i64 m] w fun e w' => e = .returned (.bool (inB n 0 (m - 1))) ∧ w = w' :=
 index_any n m w h1 h2

/-- The first k labels are as they must be. -/
def GoodTo (ls : List ByteArray) (k : Nat) : Prop :=
 ∀ q (h : q < ls.length), q < k → labelOk ls[q].data.toList = true ∧ (ls[q].toList == tauB) = decide (q = 0) ∧ ∀ (_ : 1 < q), strLess ls[q - 1] ls[q] = true

theorem GoodTo.succ {ls : List ByteArray} {k : Nat} (h : GoodTo ls k) (hk : k < ls.length) (h1 : labelOk ls[k].data.toList = true) (h2 : (ls[k].toList == tauB) = decide (k = 0)) (h3 : ∀ (_ : 1 < k), strLess ls[k - 1] ls[k] = true) : GoodTo ls (k + 1) := by
 intro q hq hlt
 by_cases e : q = k
 ·subst e; exact ⟨h1, h2, h3⟩
 ·exact h q hq (by omega)
theorem GoodTo.all {ls : List ByteArray} (h : GoodTo ls ls.length) (h1 : 1 ≤ ls.length) (h2 : ls.length ≤ 12) : LabelsOk ls :=
 ⟨h1, h2, fun hp => by simpa using (h 0 hp hp).2.1, fun i hi _ => (h i hi hi).1, fun i hi h1 => by
  have := (h i hi hi).2.1
  rw [decide_eq_false (by omega)] at this
  simpa using this, fun i hi h1 => (h (i + 1) hi hi).2.2 (by omega)⟩
theorem LabelsOk.all {ls : List ByteArray} (h : LabelsOk ls) (q : Nat) (hq : q < ls.length) : labelOk ls[q].data.toList = true := by
 by_cases e : q = 0
 ·subst e
  have := h.first hq
  rw [Lib.toList_data] at this
  rw [this]
  decide
 ·exact h.label q hq (by omega)

set_option maxRecDepth 100000 in
set_option maxHeartbeats 4000000 in
theorem ValidLts_any (lo : Nat) (t : Lts) (lv ev : Value) (w : World) (hsh : Short20 t.labels) (hl : SliceK 1 encS lo w lv t.labels) (he : SliceK 3 encE lo w ev t.edges) (g : Glob w) :
  Calls Tryz.prog 23 #[.agg #[.int .i64 t.states, .int .i64 t.initial, lv, ev]] w (Decides (Valid t) w) := by
 have HSH := Lib.hid hsh
 have G := Lib.hid g
 clear hsh g
 obtain ⟨al, cl, rfl, hln, hlc, hlr⟩ := hl
 obtain ⟨ae, ce, rfl, hen, hec, her⟩ := he
 have HLR := Lib.hid hlr
 have HER := Lib.hid her
 clear hlr her
 have HB0 : Hid (Below w.heap.size w (w.alloc (.cells #[.int .i64 t.states, .int .i64 t.initial, .slice al t.labels.length cl, .slice ae t.edges.length ce] 29))) := (Below.refl _ _).alloc (Nat.le_refl _) _
 cases hA : inB t.states 1 40
 ·have HA := Lib.hid hA
  clear hA
  go_enter Tryz.func23, Tryz.ntmps23
  go_wp2_with fail
  refine (within_is HA.out _).mono ?_
  rintro e w' ⟨rfl, rfl⟩
  go_wp2_with fail
  go_ret
  exact ⟨false, rfl, ⟨(fun h => by cases h), fun h => absurd ⟨h.st0, h.st1⟩ (inB_not HA.out)⟩, HB0.out⟩
 ·have hA1 : 1 ≤ t.states := (inB_iff.1 hA).1
  have hA2 : t.states ≤ 40 := (inB_iff.1 hA).2
  have HA := Lib.hid hA
  clear hA
  cases hB : inB t.initial 0 (t.states - 1)
  ·have HB := Lib.hid hB
   clear hB
   go_enter Tryz.func23, Tryz.ntmps23
   go_wp2_with fail
   refine (within_is HA.out _).mono ?_
   rintro e w' ⟨rfl, rfl⟩
   go_wp2_with fail
   refine (isState_is HB.out _ hA1 hA2).mono ?_
   rintro e w1 ⟨rfl, hb1⟩
   have HB1 := Lib.hid (HB0.out.trans (hb1.mono HB0.out.size))
   clear hb1
   go_wp2_with fail
   go_ret
   exact ⟨false, rfl, ⟨(fun h => by cases h), fun h => absurd ⟨h.in0, by have := h.in1; omega⟩ (inB_not HB.out)⟩, HB1.out⟩
  ·have HI : Hid (0 ≤ t.initial ∧ t.initial < t.states) := by unfold Hid; have := inB_iff.1 hB; omega
   have HB := Lib.hid hB
   clear hB
   cases hC : inB (t.labels.length : Int) 1 12
   ·have HC := Lib.hid hC
    clear hC
    go_enter Tryz.func23, Tryz.ntmps23
    go_wp2_with fail
    refine (within_is HA.out _).mono ?_
    rintro e w' ⟨rfl, rfl⟩
    go_wp2_with fail
    refine (isState_is HB.out _ hA1 hA2).mono ?_
    rintro e w1 ⟨rfl, hb1⟩
    have HB1 := Lib.hid (HB0.out.trans (hb1.mono HB0.out.size))
    have q2 : w1.cell? ⟨w.heap.size, 2, none⟩ = some (.slice al t.labels.length cl) := keeps hb1 (by simp) (by simp)
    clear hb1
    go_wp2_with fail
    refine (within_is HC.out _).mono ?_
    rintro e w' ⟨rfl, rfl⟩
    go_wp2_with fail
    go_ret
    exact ⟨false, rfl, ⟨(fun h => by cases h), fun h => by have h1 := h.labels.pos; have h2 := h.labels.most; exact (inB_not HC.out ⟨by omega, by omega⟩).elim⟩, HB1.out⟩
   ·have hC1 : 1 ≤ t.labels.length ∧ t.labels.length ≤ 12 := by have := inB_iff.1 hC; omega
    have HC := Lib.hid hC
    clear hC
    by_cases hD : 300 < (t.edges.length : Int)
    ·go_enter Tryz.func23, Tryz.ntmps23
     go_wp2_with fail
     refine (within_is HA.out _).mono ?_
     rintro e w' ⟨rfl, rfl⟩
     go_wp2_with fail
     refine (isState_is HB.out _ hA1 hA2).mono ?_
     rintro e w1 ⟨rfl, hb1⟩
     have HB1 := Lib.hid (HB0.out.trans (hb1.mono HB0.out.size))
     have q2 : w1.cell? ⟨w.heap.size, 2, none⟩ = some (.slice al t.labels.length cl) := keeps hb1 (by simp) (by simp)
     have q3 : w1.cell? ⟨w.heap.size, 3, none⟩ = some (.slice ae t.edges.length ce) := keeps hb1 (by simp) (by simp)
     clear hb1
     go_wp2_with fail
     refine (within_is HC.out _).mono ?_
     rintro e w' ⟨rfl, rfl⟩
     go_wp2_with fail
     go_ret
     exact ⟨false, rfl, ⟨(fun h => by cases h), fun h => by have h1 := h.most; omega⟩, HB1.out⟩
    ·go_enter Tryz.func23, Tryz.ntmps23
     go_wp2_with fail
     refine (within_is HA.out _).mono ?_
     rintro e w' ⟨rfl, rfl⟩
     go_wp2_with fail
     refine (isState_is HB.out _ hA1 hA2).mono ?_
     rintro e w1 ⟨rfl, hb1⟩
     have HB1 := Lib.hid (HB0.out.trans (hb1.mono HB0.out.size))
     have q0 : w1.cell? ⟨w.heap.size, 0, none⟩ = some (.int .i64 t.states) := keeps hb1 (by simp) (by simp)
     have q1 : w1.cell? ⟨w.heap.size, 1, none⟩ = some (.int .i64 t.initial) := keeps hb1 (by simp) (by simp)
     have q2 : w1.cell? ⟨w.heap.size, 2, none⟩ = some (.slice al t.labels.length cl) := keeps hb1 (by simp) (by simp)
     have q3 : w1.cell? ⟨w.heap.size, 3, none⟩ = some (.slice ae t.edges.length ce) := keeps hb1 (by simp) (by simp)
     have hbz : w.heap.size < w1.heap.size := by have := hb1.size; simp at this; omega
     clear hb1 HB0
     go_wp2_with fail
     refine (within_is HC.out _).mono ?_
     rintro e w' ⟨rfl, rfl⟩
     go_wp2_with fail
     have Q0 := Lib.hid q0
     have Q1 := Lib.hid q1
     have Q2 := Lib.hid q2
     have Q3 := Lib.hid q3
     have HLR1 := Lib.hid (HLR.out.below HB1.out)
     have HER1 := Lib.hid (HER.out.below HB1.out)
     have G1 := Lib.hid (G.out.below HB1.out)
     clear q0 q1 q2 q3 HLR HER G
     obtain ⟨b0, hb0⟩ : ∃ b0, b0 = w.heap.size := ⟨_, rfl⟩
     rw [← hb0] at hbz Q0 Q1 Q2 Q3
     simp only [← hb0]
     have HB00 := Lib.hid hb0
     clear hb0
     go_loopw [34] (fun i wr => ∃ k : Nat, k ≤ t.labels.length ∧ i = .int .i64 k ∧ Below w1.heap.size w1 wr ∧ GoodTo t.labels k) (fun i _ => t.labels.length - (intOf i).toNat)
     case atStart => exact ⟨0, Nat.zero_le _, rfl, Below.refl _ _, fun _ _ h => by omega⟩
     case round =>
      obtain ⟨k, hk, rfl, hbl, hgd⟩ := hrel
      have HBL := Lib.hid hbl
      have HGD := Lib.hid hgd
      have hsz := hbl.size
      clear hgd
      by_cases hlt : k < t.labels.length
      ·have hshk := HSH.out k hlt
       obtain ⟨bl, ol, rfl, -, hbs, c1⟩ := (HLR1.out.below hbl).one hlt
       simp only [encS, List.getElem?_cons_zero] at c1
       have q2 := keeps hbl hbz Q2.out
       obtain ⟨s, hs⟩ : ∃ s, s = t.labels[k] := ⟨_, rfl⟩
       rw [← hs] at c1 hshk
       have HS := Lib.hid hs
       have GR := Lib.hid (G1.out.below hbl)
       have HRR := Lib.hid (HLR1.out.below hbl)
       clear hs hbl
       cases h1 : labelOk s.data.toList
       ·have H1 := Lib.hid h1
        clear h1
        go_wp2_with fail
        refine (IsLabel_is H1.out _ hshk GR.out).mono ?_
        rintro e w2 ⟨rfl, hb2⟩
        have HB2 := Lib.hid (HBL.out.trans (hb2.mono hsz))
        clear hb2
        go_wp2_with fail
        go_ret
        refine ⟨false, rfl, ⟨(fun h => by cases h), fun h => ?_⟩, HB1.out.trans (HB2.out.mono HB1.out.size)⟩
        have := h.labels.all k hlt
        rw [← HS.out, H1.out] at this
        cases this
       ·have H1 := Lib.hid h1
        clear h1
        have HRL := Lib.hid (HLR1.out.below HBL.out)
        cases h2 : (s.toList == [116, 97, 117])
        ·have H2 : Hid ((t.labels[k].toList == tauB) = false) := by unfold Hid; rw [← HS.out]; exact h2
         rcases Nat.eq_zero_or_pos k with hk0 | hk0
         ·have hz : ((k : Int) == 0) = true := by rw [beq_iff_eq]; omega
          have HK0 : Hid (k = 0) := hk0
          clear hk0
          go_wp2_with fail
          refine (IsLabel_is H1.out _ hshk GR.out).mono ?_
          rintro e w2 ⟨rfl, hb2⟩
          have HB2 := Lib.hid (HBL.out.trans (hb2.mono hsz))
          clear hb2
          go_wp2_with fail
          go_ret
          refine ⟨false, rfl, ⟨(fun h => by cases h), fun h => ?_⟩, HB1.out.trans (HB2.out.mono HB1.out.size)⟩
          have hk0 : k = 0 := HK0.out
          subst hk0
          have h3 := h.labels.first hlt
          have h4 := H2.out
          rw [h3] at h4
          simp at h4
         ·have hz : ((k : Int) == 0) = false := by rw [beq_eq_false_iff_ne]; omega
          by_cases hk1 : 1 < k
          ·obtain ⟨m, rfl⟩ : ∃ m, k = m + 1 := ⟨k - 1, by omega⟩
           obtain ⟨_, _, e9, -, -, c0⟩ := HRL.out.one (show m < t.labels.length by omega)
           simp only [Option.some.injEq, Addr.mk.injEq, and_true] at e9
           obtain ⟨rfl, rfl⟩ := e9
           simp only [encS, List.getElem?_cons_zero] at c0
           obtain ⟨s0, hs0⟩ : ∃ s0, s0 = t.labels[m] := ⟨_, rfl⟩
           rw [← hs0] at c0
           have HS0 := Lib.hid hs0
           clear hs0
           cases h3 : Op.bytesLess s0.toList s.toList
           ·have h4 : (Op.bytesLess s.toList s0.toList || s.toList == s0.toList) = true := by rw [less_leq, h3]; rfl
            have H3 := Lib.hid h3
            clear h3
            go_wp2_with fail
            refine (IsLabel_is H1.out _ hshk GR.out).mono ?_
            rintro e w2 ⟨rfl, hb2⟩
            have q2' := keeps hb2 (by omega) q2
            have c0' := keeps hb2 hbs c0
            have HB2 := Lib.hid (HBL.out.trans (hb2.mono hsz))
            clear hb2
            go_wp2_with fail
            go_ret
            refine ⟨false, rfl, ⟨(fun h => by cases h), fun h => ?_⟩, HB1.out.trans (HB2.out.mono HB1.out.size)⟩
            have h5 := h.labels.rise m hlt (by omega)
            unfold strLess at h5
            rw [← HS0.out, ← HS.out, H3.out] at h5
            cases h5
           ·have h4 : (Op.bytesLess s.toList s0.toList || s.toList == s0.toList) = false := by rw [less_leq, h3]; rfl
            have H3 := Lib.hid h3
            clear h3
            go_wp2_with fail
            refine (IsLabel_is H1.out _ hshk GR.out).mono ?_
            rintro e w2 ⟨rfl, hb2⟩
            have q2' := keeps hb2 (by omega) q2
            have c0' := keeps hb2 hbs c0
            have HB2 := Lib.hid (HBL.out.trans (hb2.mono hsz))
            clear hb2
            go_wp2_with fail
            go_roundw
            case rel => exact ⟨m + 1 + 1, by omega, by go_num, HB2.out, HGD.out.succ hlt (by rw [← HS.out]; exact H1.out) (by rw [H2.out, decide_eq_false (by omega)]) (fun _ => by
             unfold strLess
             simp only [Nat.add_sub_cancel]
             rw [← HS0.out, ← HS.out]; exact H3.out)⟩
            case measure => simp [intOf]; omega
          ·have hk2 : decide (1 < (k : Int)) = false := by rw [decide_eq_false_iff_not]; omega
           have hk3 : ¬ 1 < (k : Int) := by omega
           go_wp2_with fail
           refine (IsLabel_is H1.out _ hshk GR.out).mono ?_
           rintro e w2 ⟨rfl, hb2⟩
           have HB2 := Lib.hid (HBL.out.trans (hb2.mono hsz))
           clear hb2
           go_wp2_with fail
           go_roundw
           case rel => exact ⟨k + 1, by omega, by go_num, HB2.out, HGD.out.succ hlt (by rw [← HS.out]; exact H1.out) (by rw [H2.out, decide_eq_false (by omega)]) (fun h => absurd h hk1)⟩
           case measure => simp [intOf]; omega
        ·have H2 : Hid ((t.labels[k].toList == tauB) = true) := by unfold Hid; rw [← HS.out]; exact h2
         rcases Nat.eq_zero_or_pos k with hk0 | hk0
         ·have hz : ((k : Int) == 0) = true := by rw [beq_iff_eq]; omega
          have HK0 : Hid (k = 0) := hk0
          have hk2 : decide (1 < (k : Int)) = false := by rw [decide_eq_false_iff_not]; omega
          have hk3 : ¬ 1 < (k : Int) := by omega
          clear hk0
          go_wp2_with fail
          refine (IsLabel_is H1.out _ hshk GR.out).mono ?_
          rintro e w2 ⟨rfl, hb2⟩
          have HB2 := Lib.hid (HBL.out.trans (hb2.mono hsz))
          clear hb2
          go_wp2_with fail
          go_roundw
          case rel => exact ⟨k + 1, by omega, by go_num, HB2.out, HGD.out.succ hlt (by rw [← HS.out]; exact H1.out) (by rw [H2.out, decide_eq_true HK0.out]) (fun h => by have := HK0.out; omega)⟩
          case measure => simp [intOf]; omega
         ·have hz : ((k : Int) == 0) = false := by rw [beq_eq_false_iff_ne]; omega
          go_wp2_with fail
          refine (IsLabel_is H1.out _ hshk GR.out).mono ?_
          rintro e w2 ⟨rfl, hb2⟩
          have HB2 := Lib.hid (HBL.out.trans (hb2.mono hsz))
          clear hb2
          go_wp2_with fail
          go_ret
          refine ⟨false, rfl, ⟨(fun h => by cases h), fun h => ?_⟩, HB1.out.trans (HB2.out.mono HB1.out.size)⟩
          have h3 := h.labels.other k hlt hk0
          have h4 := H2.out
          exact absurd (by simpa using h4) h3
      ·obtain rfl : k = t.labels.length := by omega
       have HLO : Hid (LabelsOk t.labels) := HGD.out.all hC1.1 hC1.2
       have q3 := keeps hbl hbz Q3.out
       clear HGD hbl HLR1 HSH G1
       obtain ⟨w2, hw2⟩ : ∃ w2, w2 = wr := ⟨_, rfl⟩
       go_wp2_with fail
       go_loopw [67] (fun i wr2 => ∃ k : Nat, k ≤ t.edges.length ∧ i = .int .i64 k ∧ Below w1.heap.size w1 wr2 ∧ (∀ q (h : q < t.edges.length), q < k → EdgeOk t t.edges[q]) ∧ (∀ q (h : q + 1 < t.edges.length), q + 1 < k → edgeLess t.edges[q] t.edges[q + 1] = true)) (fun i _ => t.edges.length - (intOf i).toNat)
       case atStart => exact ⟨0, Nat.zero_le _, rfl, HBL.out, fun _ _ h => by omega, fun _ _ h => by omega⟩
       case round =>
        obtain ⟨k, hk, rfl, hbl, hx1, hx2⟩ := hrel
        have HX1 := Lib.hid hx1
        have HX2 := Lib.hid hx2
        have HBE := Lib.hid hbl
        have hsz := hbl.size
        have q0 := keeps hbl hbz Q0.out
        have q1 := keeps hbl hbz Q1.out
        have q2 := keeps hbl hbz Q2.out
        have q3 := keeps hbl hbz Q3.out
        clear hx1 hx2 hbl
        by_cases hlt : k < t.edges.length
        ·have hml := hen
         obtain ⟨be, oe, rfl, -, hbe, e1, e2, e3⟩ := (HER1.out.below HBE.out).edge hlt
         have HROW := Lib.hid (HER1.out.below HBE.out)
         have HE := Lib.hid (show EdgeOk t t.edges[k] ↔ (inB t.edges[k].src 0 (t.states - 1) = true ∧ inB t.edges[k].dst 0 (t.states - 1) = true) ∧ inB t.edges[k].lab 0 ((t.labels.length : Int) - 1) = true from edgeOk_iff t _)
         obtain ⟨e, hee⟩ : ∃ e, e = t.edges[k] := ⟨_, rfl⟩
         rw [← hee] at e1 e2 e3 HE
         have HEE := Lib.hid hee
         clear hee
         have HO : Below wr.heap.size wr (wr.alloc (.cells #[.int .i64 e.src, .int .i64 e.lab, .int .i64 e.dst] 73)) := (Below.refl _ _).alloc (Nat.le_refl _) _
         have s0 := later_cell (w0 := wr.alloc (.cells #[.int .i64 e.src, .int .i64 e.lab, .int .i64 e.dst] 73)) (b := b0) (by simp; omega) (keeps HO (by omega) q0)
         have s1 := later_cell (w0 := wr.alloc (.cells #[.int .i64 e.src, .int .i64 e.lab, .int .i64 e.dst] 73)) (b := b0) (by simp; omega) (keeps HO (by omega) q1)
         have s2 := later_cell (w0 := wr.alloc (.cells #[.int .i64 e.src, .int .i64 e.lab, .int .i64 e.dst] 73)) (b := b0) (by simp; omega) (keeps HO (by omega) q2)
         have s3 := later_cell (w0 := wr.alloc (.cells #[.int .i64 e.src, .int .i64 e.lab, .int .i64 e.dst] 73)) (b := b0) (by simp; omega) (keeps HO (by omega) q3)
         have t0 := later_cell (w0 := wr.alloc (.cells #[.int .i64 e.src, .int .i64 e.lab, .int .i64 e.dst] 73)) (b := wr.heap.size) (o := 0) (v := .int .i64 e.src) (by simp) (by simp)
         have t1 := later_cell (w0 := wr.alloc (.cells #[.int .i64 e.src, .int .i64 e.lab, .int .i64 e.dst] 73)) (b := wr.heap.size) (o := 1) (v := .int .i64 e.lab) (by simp) (by simp)
         have t2 := later_cell (w0 := wr.alloc (.cells #[.int .i64 e.src, .int .i64 e.lab, .int .i64 e.dst] 73)) (b := wr.heap.size) (o := 2) (v := .int .i64 e.dst) (by simp) (by simp)
         have HO2 := Lib.hid HO
         rcases Nat.eq_zero_or_pos k with hk0 | hk0
         ·have hkz : ¬ (0 : Int) < (k : Int) := by omega
          have hkd : decide ((0 : Int) < (k : Int)) = false := by rw [decide_eq_false_iff_not]; exact hkz
          have hkd2 : decide (0 < k) = false := by rw [decide_eq_false_iff_not]; omega
          have hkz2 : ¬ 0 < k := by omega
          have HK0 : Hid (k = 0) := hk0
          clear hk0 HO hml
          cases g1 : inB e.src 0 (t.states - 1)
          ·have HG := Lib.hid g1
           go_wp2_with fail
           refine wp_region_later (by kernel_rfl) (by kernel_rfl) ?_
           repeat (go_big_quiet_step ((first | (go_at_call 47; exact later_call (isState_any _ _ _ _ _ _ hA1 hA2)) | (go_at_call 49; exact later_same (index_in _ _ _ (by omega) (by omega))))))
           refine wpQuiet_nil ?_
           intro _ hw9
           obtain ⟨nl, hw8⟩ := hw9
           subst hw8
           go_wp2_with fail
           go_ret
           refine ⟨false, rfl, ⟨(fun h => by cases h), fun h => ?_⟩, HB1.out.trans ((HBE.out.trans ((HO2.out.trans (nl.h.mono (by simp))).mono hsz)).mono HB1.out.size)⟩
           have h2 := h.edge k hlt
           rw [← HEE.out, HE.out, HG.out] at h2
           exact absurd h2.1.1 (by simp)
          ·cases g2 : inB e.dst 0 (t.states - 1)
           ·have HG := Lib.hid g2
            go_wp2_with fail
            refine wp_region_later (by kernel_rfl) (by kernel_rfl) ?_
            repeat (go_big_quiet_step ((first | (go_at_call 47; exact later_call (isState_any _ _ _ _ _ _ hA1 hA2)) | (go_at_call 49; exact later_same (index_in _ _ _ (by omega) (by omega))))))
            refine wpQuiet_nil ?_
            intro _ hw9
            obtain ⟨nl, hw8⟩ := hw9
            subst hw8
            go_wp2_with fail
            go_ret
            refine ⟨false, rfl, ⟨(fun h => by cases h), fun h => ?_⟩, HB1.out.trans ((HBE.out.trans ((HO2.out.trans (nl.h.mono (by simp))).mono hsz)).mono HB1.out.size)⟩
            have h2 := h.edge k hlt
            rw [← HEE.out, HE.out, HG.out] at h2
            exact absurd h2.1.2 (by simp)
           ·cases g3 : inB e.lab 0 ((t.labels.length : Int) - 1)
            ·have HG := Lib.hid g3
             go_wp2_with fail
             refine wp_region_later (by kernel_rfl) (by kernel_rfl) ?_
             repeat (go_big_quiet_step ((first | (go_at_call 47; exact later_call (isState_any _ _ _ _ _ _ hA1 hA2)) | (go_at_call 49; exact later_same (index_in _ _ _ (by omega) (by omega))))))
             refine wpQuiet_nil ?_
             intro _ hw9
             obtain ⟨nl, hw8⟩ := hw9
             subst hw8
             go_wp2_with fail
             go_ret
             refine ⟨false, rfl, ⟨(fun h => by cases h), fun h => ?_⟩, HB1.out.trans ((HBE.out.trans ((HO2.out.trans (nl.h.mono (by simp))).mono hsz)).mono HB1.out.size)⟩
             have h2 := h.edge k hlt
             rw [← HEE.out, HE.out, HG.out] at h2
             exact absurd h2.2 (by simp)
            ·have HEK : Hid (EdgeOk t t.edges[k]) := by unfold Hid; rw [← HEE.out, HE.out]; exact ⟨⟨g1, g2⟩, g3⟩
             go_wp2_with fail
             refine wp_region_later (by kernel_rfl) (by kernel_rfl) ?_
             repeat (go_big_quiet_step ((first | (go_at_call 47; exact later_call (isState_any _ _ _ _ _ _ hA1 hA2)) | (go_at_call 49; exact later_same (index_in _ _ _ (by omega) (by omega))))))
             refine wpQuiet_nil ?_
             intro _ hw9
             obtain ⟨nl, hw8⟩ := hw9
             subst hw8
             clear g1 g2 g3 t0 t1 t2 s0 s1 s2 s3
             go_wp2_with fail
             go_roundw
             case rel => exact ⟨k + 1, by omega, by go_num, HBE.out.trans ((HO2.out.trans (nl.h.mono (by simp))).mono hsz), fun q h h' => by
               obtain rfl : q = k := by have := HK0.out; omega
               exact HEK.out, fun q h h' => by have := HK0.out; omega⟩
             case measure => simp [intOf]; omega
         ·obtain ⟨m, rfl⟩ : ∃ m, k = m + 1 := ⟨k - 1, by omega⟩
          obtain ⟨_, _, e9, -, -, d1, d2, d3⟩ := HROW.out.edge (show m < t.edges.length by omega)
          simp only [Option.some.injEq, Addr.mk.injEq, and_true] at e9
          obtain ⟨rfl, rfl⟩ := e9
          replace d1 := later_cell (w0 := wr.alloc (.cells #[.int .i64 e.src, .int .i64 e.lab, .int .i64 e.dst] 73)) (b := be) (by simp; omega) (keeps HO hbe d1)
          replace d2 := later_cell (w0 := wr.alloc (.cells #[.int .i64 e.src, .int .i64 e.lab, .int .i64 e.dst] 73)) (b := be) (by simp; omega) (keeps HO hbe d2)
          replace d3 := later_cell (w0 := wr.alloc (.cells #[.int .i64 e.src, .int .i64 e.lab, .int .i64 e.dst] 73)) (b := be) (by simp; omega) (keeps HO hbe d3)
          have hkd : decide ((0 : Int) < (m : Int) + 1) = true := by rw [decide_eq_true_eq]; omega
          clear hk0 HO hml
          cases g1 : inB e.src 0 (t.states - 1)
          ·have HG := Lib.hid g1
           go_wp2_with fail
           refine wp_region_later (by kernel_rfl) (by kernel_rfl) ?_
           repeat (go_big_quiet_step ((first | (go_at_call 47; exact later_call (isState_any _ _ _ _ _ _ hA1 hA2)) | (go_at_call 49; exact later_same (index_in _ _ _ (by omega) (by omega))) | (go_at_call 50; exact later_call (compareEdges_any t.edges[m] e _)))))
           refine wpQuiet_nil ?_
           intro _ hw9
           obtain ⟨nl, hw8⟩ := hw9
           subst hw8
           go_wp2_with fail
           go_ret
           refine ⟨false, rfl, ⟨(fun h => by cases h), fun h => ?_⟩, HB1.out.trans ((HBE.out.trans ((HO2.out.trans (nl.h.mono (by simp))).mono hsz)).mono HB1.out.size)⟩
           have h2 := h.edge (m + 1) hlt
           rw [← HEE.out, HE.out, HG.out] at h2
           exact absurd h2.1.1 (by simp)
          ·cases g2 : inB e.dst 0 (t.states - 1)
           ·have HG := Lib.hid g2
            go_wp2_with fail
            refine wp_region_later (by kernel_rfl) (by kernel_rfl) ?_
            repeat (go_big_quiet_step ((first | (go_at_call 47; exact later_call (isState_any _ _ _ _ _ _ hA1 hA2)) | (go_at_call 49; exact later_same (index_in _ _ _ (by omega) (by omega))) | (go_at_call 50; exact later_call (compareEdges_any t.edges[m] e _)))))
            refine wpQuiet_nil ?_
            intro _ hw9
            obtain ⟨nl, hw8⟩ := hw9
            subst hw8
            go_wp2_with fail
            go_ret
            refine ⟨false, rfl, ⟨(fun h => by cases h), fun h => ?_⟩, HB1.out.trans ((HBE.out.trans ((HO2.out.trans (nl.h.mono (by simp))).mono hsz)).mono HB1.out.size)⟩
            have h2 := h.edge (m + 1) hlt
            rw [← HEE.out, HE.out, HG.out] at h2
            exact absurd h2.1.2 (by simp)
           ·cases g3 : inB e.lab 0 ((t.labels.length : Int) - 1)
            ·have HG := Lib.hid g3
             go_wp2_with fail
             refine wp_region_later (by kernel_rfl) (by kernel_rfl) ?_
             repeat (go_big_quiet_step ((first | (go_at_call 47; exact later_call (isState_any _ _ _ _ _ _ hA1 hA2)) | (go_at_call 49; exact later_same (index_in _ _ _ (by omega) (by omega))) | (go_at_call 50; exact later_call (compareEdges_any t.edges[m] e _)))))
             refine wpQuiet_nil ?_
             intro _ hw9
             obtain ⟨nl, hw8⟩ := hw9
             subst hw8
             go_wp2_with fail
             go_ret
             refine ⟨false, rfl, ⟨(fun h => by cases h), fun h => ?_⟩, HB1.out.trans ((HBE.out.trans ((HO2.out.trans (nl.h.mono (by simp))).mono hsz)).mono HB1.out.size)⟩
             have h2 := h.edge (m + 1) hlt
             rw [← HEE.out, HE.out, HG.out] at h2
             exact absurd h2.2 (by simp)
            ·have HEK : Hid (EdgeOk t t.edges[m + 1]) := by unfold Hid; rw [← HEE.out, HE.out]; exact ⟨⟨g1, g2⟩, g3⟩
             cases g4 : edgeLess t.edges[m] e
             ·have HG := Lib.hid g4
              have g5 : decide (0 ≤ cmpE t.edges[m] e) = true := by rw [cmpE_less, g4]; rfl
              clear g4
              go_wp2_with fail
              refine wp_region_later (by kernel_rfl) (by kernel_rfl) ?_
              repeat (go_big_quiet_step ((first | (go_at_call 47; exact later_call (isState_any _ _ _ _ _ _ hA1 hA2)) | (go_at_call 49; exact later_same (index_in _ _ _ (by omega) (by omega))) | (go_at_call 50; exact later_call (compareEdges_any t.edges[m] e _)))))
              refine wpQuiet_nil ?_
              intro _ hw9
              obtain ⟨nl, hw8⟩ := hw9
              subst hw8
              go_wp2_with fail
              go_ret
              refine ⟨false, rfl, ⟨(fun h => by cases h), fun h => ?_⟩, HB1.out.trans ((HBE.out.trans ((HO2.out.trans (nl.h.mono (by simp))).mono hsz)).mono HB1.out.size)⟩
              have h2 := h.rise m hlt
              rw [← HEE.out, HG.out] at h2
              cases h2
             ·have HG := Lib.hid g4
              have g5 : decide (0 ≤ cmpE t.edges[m] e) = false := by rw [cmpE_less, g4]; rfl
              clear g4
              go_wp2_with fail
              refine wp_region_later (by kernel_rfl) (by kernel_rfl) ?_
              repeat (go_big_quiet_step ((first | (go_at_call 47; exact later_call (isState_any _ _ _ _ _ _ hA1 hA2)) | (go_at_call 49; exact later_same (index_in _ _ _ (by omega) (by omega))) | (go_at_call 50; exact later_call (compareEdges_any t.edges[m] e _)))))
              refine wpQuiet_nil ?_
              intro _ hw9
              obtain ⟨nl, hw8⟩ := hw9
              subst hw8
              clear g1 g2 g3 g5 t0 t1 t2 s0 s1 s2 s3 d1 d2 d3
              go_wp2_with fail
              go_roundw
              case rel => exact ⟨m + 1 + 1, by omega, by go_num, HBE.out.trans ((HO2.out.trans (nl.h.mono (by simp))).mono hsz), fun q h h' => by
                by_cases e9 : q = m + 1
                ·subst e9; exact HEK.out
                ·exact HX1.out q h (by omega), fun q h h' => by
                by_cases e9 : q = m
                ·subst e9; rw [← HEE.out]; exact HG.out
                ·exact HX2.out q h (by omega)⟩
              case measure => simp [intOf]; omega
        ·go_wp2_with fail
         go_ret
         refine ⟨true, rfl, ⟨fun _ => ?_, fun _ => rfl⟩, HB1.out.trans (HBE.out.mono HB1.out.size)⟩
         exact ⟨hA1, hA2, HI.out.1, HI.out.2, HLO.out, by omega, fun q h => HX1.out q h (by omega), fun q h => HX2.out q h (by omega)⟩

end Go.Proofs.YtbjbjbnbapeajaaGreatDoor

namespace Go.Proofs.YtbjbjbnbapeajaaGreatDoor
open Go Go.RowKit

theorem Valid_yes {lo : Nat} {t : Lts} {lv ev : Value} {w : World} (hv : Valid t) (hsh : Short20 t.labels) (hl : SliceK 1 encS lo w lv t.labels) (he : SliceK 3 encE lo w ev t.edges) (g : Glob w) :
  Calls Tryz.prog 23 #[.agg #[.int .i64 t.states, .int .i64 t.initial, lv, ev]] w fun e w' => e = .returned (.bool true) ∧ Below w.heap.size w w' :=
 Decides.yes (ValidLts_any lo t lv ev w hsh hl he g) hv
theorem Valid_no {lo : Nat} {t : Lts} {lv ev : Value} {w : World} (hv : ¬ Valid t) (hsh : Short20 t.labels) (hl : SliceK 1 encS lo w lv t.labels) (he : SliceK 3 encE lo w ev t.edges) (g : Glob w) :
  Calls Tryz.prog 23 #[.agg #[.int .i64 t.states, .int .i64 t.initial, lv, ev]] w fun e w' => e = .returned (.bool false) ∧ Below w.heap.size w w' :=
 Decides.no (ValidLts_any lo t lv ev w hsh hl he g) hv

end Go.Proofs.YtbjbjbnbapeajaaGreatDoor

namespace Go.Proofs.YtbjbjbnbapeajaaGreatDoor
open Go Go.RowKit

theorem kindOk_any (κ : Int) (w : World) : Calls Tryz.prog 60 #[.int .i64 κ] w fun e w' => e = .returned (.bool (decide (0 ≤ κ) && decide (κ ≤ 2))) ∧ w = w' := by
 go_enter Tryz.func60, Tryz.ntmps60
 go_wp2_with fail
 refine (within_any _ _ _ _).mono ?_
 rintro e w' ⟨rfl, rfl⟩
 go_wp2_with fail
 go_ret
 exact ⟨rfl, rfl⟩

set_option maxRecDepth 100000 in
set_option maxHeartbeats 1000000 in
theorem simulationCode_any (lo : Nat) (a b : Lts) (κ : Int) (la ea lb eb : Value) (w : World) (hsa : Short20 a.labels) (hsb : Short20 b.labels) (hla : SliceK 1 encS lo w la a.labels) (hea : SliceK 3 encE lo w ea a.edges) (hlb : SliceK 1 encS lo w lb b.labels) (heb : SliceK 3 encE lo w eb b.edges) (g : Glob w) :
  Calls Tryz.prog 34 #[.agg #[.int .i64 a.states, .int .i64 a.initial, la, ea], .agg #[.int .i64 b.states, .int .i64 b.initial, lb, eb], .int .i64 κ] w fun e w' => ∃ code, e = .returned (.int .i64 code) ∧ Below w.heap.size w w' ∧ AskIs a b κ code := by
 obtain ⟨ba, hba⟩ : ∃ ba, ba = w.heap.size := ⟨_, rfl⟩
 obtain ⟨bb, hbb⟩ : ∃ bb, bb = w.heap.size + 1 := ⟨_, rfl⟩
 obtain ⟨W, hW⟩ : ∃ W, W = (w.alloc (.cells #[.int .i64 a.states, .int .i64 a.initial, la, ea] 29)).alloc (.cells #[.int .i64 b.states, .int .i64 b.initial, lb, eb] 29) := ⟨_, rfl⟩
 have hb : Below w.heap.size w W := by rw [hW]; exact ((Below.refl _ _).alloc (Nat.le_refl _) _).alloc (by simp) _
 have hA : Blk W ba [.int .i64 a.states, .int .i64 a.initial, la, ea] 29 := by rw [hW, hba]; exact (Blk.new w _ _).alloc _
 have hB : Blk W bb [.int .i64 b.states, .int .i64 b.initial, lb, eb] 29 := by
  have h := Blk.new (w.alloc (.cells #[.int .i64 a.states, .int .i64 a.initial, la, ea] 29)) [.int .i64 b.states, .int .i64 b.initial, lb, eb] 29
  rw [World.size_alloc, ← hbb] at h
  rw [hW]
  exact h
 have HB := Lib.hid hB
 have HLB := Lib.hid (hlb.below hb)
 have HEB := Lib.hid (heb.below hb)
 have HSB := Lib.hid hsb
 have HG := Lib.hid (g.below hb)
 have HBW := Lib.hid hb
 have HW := Lib.hid hW
 have HBB := Lib.hid hbb
 have hsW : w.heap.size ≤ W.heap.size := hb.size
 have HLA := Lib.hid (hla.below hb)
 have HEA := Lib.hid (hea.below hb)
 have HSA := Lib.hid hsa
 clear hla hea hlb heb hsa hsb g hba hbb hW hb hA hB
 by_cases hva : Valid a
 ·have HVA := Lib.hid hva
  have HA2 : Hid (Calls Tryz.prog 23 #[.agg #[.int .i64 a.states, .int .i64 a.initial, la, ea]] W fun e w' => e = .returned (.bool true) ∧ Below W.heap.size W w') := Valid_yes hva HSA.out HLA.out HEA.out HG.out
  clear hva
  by_cases hvb : Valid b
  ·have HVB := Lib.hid hvb
   clear hvb
   obtain ⟨kb, hkb⟩ : ∃ kb, kb = (decide (0 ≤ κ) && decide (κ ≤ 2)) := ⟨_, rfl⟩
   have HKB := Lib.hid hkb
   clear hkb
   go_enter Tryz.func34, Tryz.ntmps34
   go_wp2_with fail
   rw [← HW.out]
   refine Calls.mono HA2.out ?_
   rintro e w1 ⟨rfl, hb1⟩
   have HB2 : Hid (Calls Tryz.prog 23 #[.agg #[.int .i64 b.states, .int .i64 b.initial, lb, eb]] w1 fun e w' => e = .returned (.bool true) ∧ Below w1.heap.size w1 w') := Valid_yes HVB.out HSB.out (HLB.out.below hb1) (HEB.out.below hb1) (HG.out.below hb1)
   have t0 := (HB.out.below hb1).cell 0 rfl
   have t1 := (HB.out.below hb1).cell 1 rfl
   have t2 := (HB.out.below hb1).cell 2 rfl
   have t3 := (HB.out.below hb1).cell 3 rfl
   have HB1 := Lib.hid (HBW.out.trans (hb1.mono hsW))
   have hs1 : w.heap.size ≤ w1.heap.size := HB1.out.size
   clear hb1 HA2
   rw [← HBB.out]
   go_wp2_with fail
   refine Calls.mono HB2.out ?_
   rintro e w2 ⟨rfl, hb2⟩
   have HK := Lib.hid (kindOk_any κ w2)
   rw [← HKB.out] at HK
   have HB3 := Lib.hid (HB1.out.trans (hb2.mono hs1))
   clear hb2 HB2 t0 t1 t2 t3
   go_wp2_with fail
   refine Calls.mono HK.out ?_
   rintro e w3 ⟨rfl, rfl⟩
   clear HK
   cases kb
   ·go_wp2_with fail
    go_ret
    exact ⟨2, rfl, HB3.out, .inr (.inl ⟨⟨HVA.out, HVB.out⟩, (fun h => by have h2 := HKB.out; rw [decide_eq_true h.1, decide_eq_true h.2] at h2; cases h2), rfl⟩)⟩
   ·go_wp2_with fail
    go_ret
    exact ⟨0, rfl, HB3.out, .inr (.inr ⟨⟨HVA.out, HVB.out⟩, (by have h2 := HKB.out.symm; rw [Bool.and_eq_true] at h2; exact ⟨of_decide_eq_true h2.1, of_decide_eq_true h2.2⟩), rfl⟩)⟩
  ·have HVB := Lib.hid hvb
   clear hvb
   go_enter Tryz.func34, Tryz.ntmps34
   go_wp2_with fail
   rw [← HW.out]
   refine Calls.mono HA2.out ?_
   rintro e w1 ⟨rfl, hb1⟩
   have HB2 : Hid (Calls Tryz.prog 23 #[.agg #[.int .i64 b.states, .int .i64 b.initial, lb, eb]] w1 fun e w' => e = .returned (.bool false) ∧ Below w1.heap.size w1 w') := Valid_no HVB.out HSB.out (HLB.out.below hb1) (HEB.out.below hb1) (HG.out.below hb1)
   have t0 := (HB.out.below hb1).cell 0 rfl
   have t1 := (HB.out.below hb1).cell 1 rfl
   have t2 := (HB.out.below hb1).cell 2 rfl
   have t3 := (HB.out.below hb1).cell 3 rfl
   have HB1 := Lib.hid (HBW.out.trans (hb1.mono hsW))
   have hs1 : w.heap.size ≤ w1.heap.size := HB1.out.size
   clear hb1 HA2
   rw [← HBB.out]
   go_wp2_with fail
   refine Calls.mono HB2.out ?_
   rintro e w2 ⟨rfl, hb2⟩
   have HB3 := Lib.hid (HB1.out.trans (hb2.mono hs1))
   clear hb2 HB2 t0 t1 t2 t3
   go_wp2_with fail
   go_ret
   exact ⟨1, rfl, HB3.out, .inl ⟨fun h => HVB.out h.2, rfl⟩⟩
 ·have HVA := Lib.hid hva
  have HA2 : Hid (Calls Tryz.prog 23 #[.agg #[.int .i64 a.states, .int .i64 a.initial, la, ea]] W fun e w' => e = .returned (.bool false) ∧ Below W.heap.size W w') := Valid_no hva HSA.out HLA.out HEA.out HG.out
  clear hva
  go_enter Tryz.func34, Tryz.ntmps34
  go_wp2_with fail
  rw [← HW.out]
  refine Calls.mono HA2.out ?_
  rintro e w1 ⟨rfl, hb1⟩
  have HB1 := Lib.hid (HBW.out.trans (hb1.mono hsW))
  clear hb1 HA2
  go_wp2_with fail
  go_ret
  exact ⟨1, rfl, HB1.out, .inl ⟨fun h => HVA.out h.1, rfl⟩⟩

set_option maxRecDepth 100000 in
set_option maxHeartbeats 2000000 in
theorem implSimulationOf_any (lo : Nat) (a b : Lts) (κ : Int) (la ea lb eb : Value) (w : World) (hsa : Short20 a.labels) (hsb : Short20 b.labels) (hla : SliceK 1 encS lo w la a.labels) (hea : SliceK 3 encE lo w ea a.edges) (hlb : SliceK 1 encS lo w lb b.labels) (heb : SliceK 3 encE lo w eb b.edges) (g : Glob w) :
  Calls Tryz.prog 13 #[.agg #[.int .i64 a.states, .int .i64 a.initial, la, ea], .agg #[.int .i64 b.states, .int .i64 b.initial, lb, eb], .int .i64 κ] w (RetSim a b κ w) := by
 obtain ⟨ba, hba⟩ : ∃ ba, ba = w.heap.size := ⟨_, rfl⟩
 obtain ⟨bb, hbb⟩ : ∃ bb, bb = w.heap.size + 1 := ⟨_, rfl⟩
 obtain ⟨W, hW⟩ : ∃ W, W = (w.alloc (.cells #[.int .i64 a.states, .int .i64 a.initial, la, ea] 29)).alloc (.cells #[.int .i64 b.states, .int .i64 b.initial, lb, eb] 29) := ⟨_, rfl⟩
 have hb : Below w.heap.size w W := by rw [hW]; exact ((Below.refl _ _).alloc (Nat.le_refl _) _).alloc (by simp) _
 have hA : Blk W ba [.int .i64 a.states, .int .i64 a.initial, la, ea] 29 := by rw [hW, hba]; exact (Blk.new w _ _).alloc _
 have hB : Blk W bb [.int .i64 b.states, .int .i64 b.initial, lb, eb] 29 := by
  have h := Blk.new (w.alloc (.cells #[.int .i64 a.states, .int .i64 a.initial, la, ea] 29)) [.int .i64 b.states, .int .i64 b.initial, lb, eb] 29
  rw [World.size_alloc, ← hbb] at h
  rw [hW]
  exact h
 have HCODE := Lib.hid (simulationCode_any lo a b κ la ea lb eb W hsa hsb (hla.below hb) (hea.below hb) (hlb.below hb) (heb.below hb) (g.below hb))
 have HA := Lib.hid hA
 have HB := Lib.hid hB
 have HLA := Lib.hid (hla.below hb)
 have HEA := Lib.hid (hea.below hb)
 have HLB := Lib.hid (hlb.below hb)
 have HEB := Lib.hid (heb.below hb)
 have HBW := Lib.hid hb
 have HW := Lib.hid hW
 have HBA := Lib.hid hba
 have HBB := Lib.hid hbb
 have hsW : w.heap.size ≤ W.heap.size := hb.size
 clear hla hea hlb heb hsa hsb g hba hbb hW hb hA hB
 go_enter Tryz.func13, Tryz.ntmps13
 go_wp2_with fail
 rw [← HW.out]
 refine Calls.mono HCODE.out ?_
 rintro e w1 ⟨code, rfl, hb1, hask⟩
 rw [← HBB.out, ← HBA.out]
 have HB1 := Lib.hid (HBW.out.trans (hb1.mono hsW))
 have hs1 : w.heap.size ≤ w1.heap.size := HB1.out.size
 rcases hask with ⟨h1, rfl⟩ | ⟨h1, h2, rfl⟩ | ⟨h1, h2, rfl⟩
 ·have H1 := Lib.hid h1
  clear hb1 h1 HCODE
  go_wp2
  go_ret2
  exact sim_none HB1.out (.inl ⟨H1.out, rfl, rfl⟩)
 ·have H1 := Lib.hid h1
  have H2 := Lib.hid h2
  clear hb1 h1 h2 HCODE
  go_wp2
  go_ret2
  exact sim_none HB1.out (.inr (.inl ⟨H1.out, H2.out, rfl, rfl⟩))
 ·have hva := h1.1
  have hvb := h1.2
  obtain ⟨S, hS⟩ : ∃ S : Nat, (S : Int) = a.states := ⟨a.states.toNat, by have := hva.st0; omega⟩
  obtain ⟨P, hP⟩ : ∃ P : Nat, (P : Int) = b.states := ⟨b.states.toNat, by have := hvb.st0; omega⟩
  have hS40 : S ≤ 40 := by have := hva.st1; omega
  have hP40 : P ≤ 40 := by have := hvb.st1; omega
  have HSIM := Lib.hid (simulationK_any lo S P κ a b la ea lb eb w1 h2 hva hvb hS hP (HLA.out.below hb1) (HEA.out.below hb1) (HLB.out.below hb1) (HEB.out.below hb1))
  have a0 := (HA.out.below hb1).cell 0 rfl
  have a1 := (HA.out.below hb1).cell 1 rfl
  have a2 := (HA.out.below hb1).cell 2 rfl
  have a3 := (HA.out.below hb1).cell 3 rfl
  have b0 := (HB.out.below hb1).cell 0 rfl
  have b1 := (HB.out.below hb1).cell 1 rfl
  have b2 := (HB.out.below hb1).cell 2 rfl
  have b3 := (HB.out.below hb1).cell 3 rfl
  have H1 := Lib.hid h1
  have H2 := Lib.hid h2
  have HSS := Lib.hid hS
  have HPP := Lib.hid hP
  have HSN : Hid (a.states.toNat = S) := by unfold Hid; omega
  have HPN : Hid (b.states.toNat = P) := by unfold Hid; omega
  clear hb1 h1 h2 hva hvb hS hP HCODE
  go_wp2_with fail
  refine Calls.mono HSIM.out ?_
  rintro e w2 ⟨mb, ps, m, rfl, hb2, hpm, hgr, hmis⟩
  have HB2 := Lib.hid (HB1.out.trans (hb2.mono hs1))
  have hs2 : w.heap.size ≤ w2.heap.size := HB2.out.size
  have HGR := Lib.hid hgr
  have HMI := Lib.hid hmis
  have HLI := Lib.hid (setList_any mb S P ps w2 hS40 hP40 hpm (fun q hq => by
   have h := stK_range HSS.out HPP.out q.1 q.2 (hgr.low q.1 q.2 (setOf_iff.2 hq))
   exact ⟨h.1, h.2⟩))
  clear hb2 hpm hgr hmis a0 a1 a2 a3 b0 b1 b2 b3 HSIM
  by_cases hm : 0 ≤ m
  ·have HNO : Hid (setOf ps a.initial b.initial = false) := by
    unfold Hid
    cases h : setOf ps a.initial b.initial with
    | false => rfl
    | true => have := HMI.out.2 (setOf_iff.1 h); omega
   go_wp2
   go_ret2
   exact sim_none HB2.out (.inr (.inr ⟨H1.out, H2.out, setOf ps, HGR.out, .inl ⟨HNO.out, rfl, rfl⟩⟩))
  ·have HYES : Hid (setOf ps a.initial b.initial = true) := setOf_iff.2 (HMI.out.1 (by omega))
   go_wp2_with fail
   refine Calls.mono HLI.out ?_
   rintro e w3 ⟨v, vs', rfl, hb3, hown⟩
   have HB3 := Lib.hid (HB2.out.trans (hb3.mono hs2))
   have HO3 := Lib.hid (OwnIntss.lower hown hs2)
   clear hb3 hown HLI
   go_wp2
   go_ret2
   exact ⟨HB3.out, pairsL S P (setOf ps), 0, v, vs', rfl, .inr (.inr ⟨H1.out, H2.out, setOf ps, HGR.out, .inr ⟨HYES.out, by rw [HSN.out, HPN.out], rfl⟩⟩), HO3.out⟩

end Go.Proofs.YtbjbjbnbapeajaaGreatDoor

namespace Go.Proofs.YtbjbjbnbapeajaaGreatDoor
open Go Go.RowKit

theorem total_two : ∀ {l : List (List Int)}, (∀ r ∈ l, r.length = 2) → total l = 2 * l.length
 | [], _ => by simp [total]
 | a :: l, h => by
  have h1 := h a (by simp)
  have h2 := total_two (l := l) (fun r hr => h r (List.mem_cons_of_mem _ hr))
  simp only [total, List.length_cons]
  omega
theorem SimIs.few {a b : Lts} {κ : Int} {xss : List (List Int)} {code : Int} (h : SimIs a b κ xss code) : total xss ≤ 3200 := by
 rcases h with ⟨-, rfl, -⟩ | ⟨-, -, rfl, -⟩ | ⟨⟨hva, hvb⟩, -, N, -, ⟨-, rfl, -⟩ | ⟨-, rfl, -⟩⟩
 ·simp [total]
 ·simp [total]
 ·simp [total]
 ·have h0 := hva.st1
  have h1 := hvb.st1
  rw [total_two (l := pairsL a.states.toNat b.states.toNat N) pairsL_two]
  have := pairsL_len (S := a.states.toNat) (P := b.states.toNat) (by omega) (by omega) N
  omega
theorem specSim_law (lo : Nat) (a : Lts) (la ea : Value) (b : Lts) (lb eb : Value) (κ : Int) (w : World) (hsa : Short a.labels) (hsb : Short b.labels) (hla : SliceK 1 encS lo w la a.labels) (hea : SliceK 3 encE lo w ea a.edges) (hlb : SliceK 1 encS lo w lb b.labels) (heb : SliceK 3 encE lo w eb b.edges) :
  Calls Tryz.prog 12 #[.agg #[.int .i64 a.states, .int .i64 a.initial, la, ea], .agg #[.int .i64 b.states, .int .i64 b.initial, lb, eb], .int .i64 κ] w (RetSim a b κ w) :=
 specSimulationOf_any lo a b κ la ea lb eb w hsa hsb hla hea hlb heb
theorem implSim_law (lo : Nat) (a : Lts) (la ea : Value) (b : Lts) (lb eb : Value) (κ : Int) (w : World) (hsa : Short20 a.labels) (hsb : Short20 b.labels) (hla : SliceK 1 encS lo w la a.labels) (hea : SliceK 3 encE lo w ea a.edges) (hlb : SliceK 1 encS lo w lb b.labels) (heb : SliceK 3 encE lo w eb b.edges) (g : Glob w) :
  Calls Tryz.prog 13 #[.agg #[.int .i64 a.states, .int .i64 a.initial, la, ea], .agg #[.int .i64 b.states, .int .i64 b.initial, lb, eb], .int .i64 κ] w (RetSim a b κ w) :=
 implSimulationOf_any lo a b κ la ea lb eb w hsa hsb hla hea hlb heb g

end Go.Proofs.YtbjbjbnbapeajaaGreatDoor

namespace Go.Proofs.YtbjbjbnbapeajaaGreatDoor
open Go Go.RowKit

set_option maxRecDepth 100000 in
set_option maxHeartbeats 400000 in
theorem markStringS_any (lo hi b n cap : Nat) (cs : List Value) (k : Int) (w : World) (h1 : 0 ≤ k) (h2 : k + n ≤ 1000000000) (hb1 : lo ≤ b) (hb2 : b < hi) (hv : w.ownsRow lo 9 1 (.slice (some ⟨b, 0, none⟩) n cap) n cs) :
  Calls Tryz.prog 27 #[.slice (some ⟨b, 0, none⟩) n cap, .int .i64 k] w (MarkedIn lo hi w (k + n)) := by
 have HV := Lib.hid hv
 clear hv
 go_enter Tryz.func27, Tryz.ntmps27
 go_wp2
 go_loopw [1, 5] (fun q i wr => ∃ (j : Nat) (cs : List Value), j ≤ n ∧ q = .int .i64 (k + j) ∧ i = .int .i64 j ∧ Turns lo hi w wr ∧ wr.ownsRow lo 9 1 (.slice (some ⟨b, 0, none⟩) n cap) n cs) (fun _ i _ => n - (intOf i).toNat)
 case atStart => exact ⟨0, cs, Nat.zero_le _, by simp, rfl, turns_refl _ _ _, HV.out⟩
 case round =>
  obtain ⟨j, cs, hj, rfl, rfl, hg, ho⟩ := hrel
  have HG := Lib.hid hg
  have HO := Lib.hid ho
  clear hg ho HV
  by_cases hlt : j < n
  ·go_wp2_with fail
   refine (markText_any _ _ (by omega) (by omega)).mono ?_
   rintro e w1 ⟨s, rfl, hb⟩
   have ho1 := owns_below HO.out hb
   obtain ⟨xc1, c1⟩ := own_cell ho1 (j) (by omega)
   have f1 := ho1.frozenAt j
   have HO2 := Lib.hid (ho1.stored j (.string s)).1
   have HB := Lib.hid hb
   clear ho1 hb
   go_wp2
   go_roundw
   case rel => exact ⟨j + 1, _, by omega, by go_num, by go_num, turns_trans (turns_trans HG.out (turns_below HB.out)) (turns_set _ _ _ hb1 hb2), HO2.out⟩
   case measure => simp [intOf]; omega
  ·go_wp2
   go_ret
   obtain rfl : j = n := by omega
   exact ⟨rfl, HG.out⟩

set_option maxRecDepth 100000 in
set_option maxHeartbeats 1000000 in
theorem markEdgeS_any (lo hi b n cap : Nat) (cs : List Value) (k : Int) (w : World) (h1 : 0 ≤ k) (h2 : k + 3 * n ≤ 1000000000) (hb1 : lo ≤ b) (hb2 : b < hi) (hv : w.ownsRow lo 73 3 (.slice (some ⟨b, 0, none⟩) n cap) n cs) :
  Calls Tryz.prog 28 #[.slice (some ⟨b, 0, none⟩) n cap, .int .i64 k] w (MarkedIn lo hi w (k + 3 * n)) := by
 have HV := Lib.hid hv
 clear hv
 go_enter Tryz.func28, Tryz.ntmps28
 go_wp2
 go_loopw [1, 5] (fun q i wr => ∃ (j : Nat) (cs : List Value), j ≤ n ∧ q = .int .i64 (k + 3 * j) ∧ i = .int .i64 j ∧ Turns lo hi w wr ∧ wr.ownsRow lo 73 3 (.slice (some ⟨b, 0, none⟩) n cap) n cs) (fun _ i _ => n - (intOf i).toNat)
 case atStart => exact ⟨0, cs, Nat.zero_le _, by simp, rfl, turns_refl _ _ _, HV.out⟩
 case round =>
  obtain ⟨j, cs, hj, rfl, rfl, hg, ho⟩ := hrel
  have HG := Lib.hid hg
  clear hg HV
  by_cases hlt : j < n
  ·obtain ⟨xc0, c0⟩ := own_cell ho (j * 3) (by omega)
   have s0 := (ho.stored (j * 3) (.int .i64 (k + 3 * j))).1
   obtain ⟨xc1, c1⟩ := own_cell s0 (j * 3 + 1) (by omega)
   have s1 := (s0.stored (j * 3 + 1) (.int .i64 (k + 3 * j + 1))).1
   obtain ⟨xc2, c2⟩ := own_cell s1 (j * 3 + 2) (by omega)
   have HO := Lib.hid (s1.stored (j * 3 + 2) (.int .i64 (k + 3 * j + 1 + 1))).1
   obtain ⟨xg1, g1⟩ := own_cell ho (j * 3 + 1) (by omega)
   obtain ⟨xg2, g2⟩ := own_cell ho (j * 3 + 2) (by omega)
   have f0 := ho.frozenAt (j * 3)
   have f1 := ho.frozenAt (j * 3 + 1)
   have f2 := ho.frozenAt (j * 3 + 2)
   clear ho s0 s1
   go_wp2
   go_roundw
   case rel => exact ⟨j + 1, _, by omega, by go_num, by go_num, turns_trans (turns_trans (turns_trans HG.out (turns_set _ _ _ hb1 hb2)) (turns_set _ _ _ hb1 hb2)) (turns_set _ _ _ hb1 hb2), HO.out⟩
   case measure => simp [intOf]; omega
  ·go_wp2
   go_ret
   obtain rfl : j = n := by omega
   exact ⟨rfl, HG.out⟩

set_option maxHeartbeats 1000000 in
theorem markLts_any (lo hi b1 b2 n1 n2 : Nat) (x y : Int) (cs1 cs2 : List Value) (k : Int) (w : World) (h1 : 0 ≤ k) (h2 : k + n1 + 3 * n2 ≤ 1000000000) (hb1 : lo ≤ b1) (hb2 : b1 < hi) (hb3 : lo ≤ b2) (hb4 : b2 < hi) (hhi : hi ≤ w.heap.size) (hne : b1 ≠ b2)
  (hv1 : w.ownsRow lo 9 1 (.slice (some ⟨b1, 0, none⟩) n1 n1) n1 cs1) (hv2 : w.ownsRow lo 73 3 (.slice (some ⟨b2, 0, none⟩) n2 n2) n2 cs2) :
  Calls Tryz.prog 10 #[.agg #[.int .i64 x, .int .i64 y, .slice (some ⟨b1, 0, none⟩) n1 n1, .slice (some ⟨b2, 0, none⟩) n2 n2], .int .i64 k] w (MarkedIn lo hi w (k + n1 + 3 * n2)) := by
 have V1 := Lib.hid hv1
 have V2 := Lib.hid hv2
 have HN := Lib.hid hne
 clear hv1 hv2 hne
 go_enter Tryz.func10, Tryz.ntmps10
 go_wp2_with fail
 refine (markStringS_any b1 (b1 + 1) b1 n1 n1 cs1 _ _ h1 (by omega) (Nat.le_refl _) (Nat.lt_succ_self _) ?_).mono ?_
 ·have := owns_below V1.out ((Below.refl _ w).alloc (Nat.le_refl _) (.cells #[.int .i64 x, .int .i64 y, .slice (some ⟨b1, 0, none⟩) n1 n1, .slice (some ⟨b2, 0, none⟩) n2 n2] 29))
  exact own_base this
 rintro e w1 ⟨rfl, ht1⟩
 have A := Lib.hid ((Blk.new w [.int .i64 x, .int .i64 y, .slice (some ⟨b1, 0, none⟩) n1 n1, .slice (some ⟨b2, 0, none⟩) n2 n2] 29).turns ht1 (by omega))
 have c3 := A.out.cell 3 rfl
 have T1 : Hid (Turns lo hi w w1) := turns_trans (turns_below ((Below.refl _ w).alloc (Nat.le_refl _) _)) (turns_wide ht1 (by omega) (by omega))
 have W2 := Lib.hid (owns_turns (owns_below V2.out ((Below.refl _ w).alloc (Nat.le_refl _) _)) ht1 (fun b e => by simp [Value.ownBlock] at e; have := HN.out; omega))
 clear ht1
 go_wp2_with fail
 refine (markEdgeS_any lo hi b2 n2 n2 cs2 _ _ (by omega) (by omega) hb3 hb4 W2.out).mono ?_
 rintro e w2 ⟨rfl, ht2⟩
 have T2 := Lib.hid ht2
 clear ht2
 go_wp2_with fail
 go_ret
 exact ⟨rfl, turns_trans T1.out T2.out⟩

end Go.Proofs.YtbjbjbnbapeajaaGreatDoor

namespace Go.Proofs.YtbjbjbnbapeajaaGreatDoor
open Go Go.RowKit

set_option maxHeartbeats 400000 in
theorem eqInt64S_same (va vb : Value) (lo lo' : Nat) (xs : List Int) (w : World) (hva : SliceK 1 encI lo w va xs) (hvb : SliceK 1 encI lo' w vb xs) :
  Calls Tryz.prog 37 #[va, vb] w fun e w' => e = .returned (.bool true) ∧ Below w.heap.size w w' := by
 obtain ⟨a, ca, rfl, hna, hca, ha⟩ := hva
 obtain ⟨b, cb, rfl, hnb, hcb, hb⟩ := hvb
 go_enter Tryz.func37, Tryz.ntmps37
 go_wp2
 go_loopw [5] (fun i wr => ∃ k : Nat, k ≤ xs.length ∧ i = .int .i64 k ∧ Below w.heap.size w wr) (fun i _ => xs.length - (intOf i).toNat)
 case atStart => exact ⟨0, Nat.zero_le _, rfl, Below.refl _ _⟩
 case round =>
  obtain ⟨k, hk, rfl, hbl⟩ := hrel
  by_cases hlt : k < xs.length
  ·obtain ⟨b1, o1, rfl, -, h1, c1⟩ := ha.one hlt
   obtain ⟨b2, o2, rfl, -, h2, c2⟩ := hb.one hlt
   simp only [encI, List.getElem?_cons_zero] at c1 c2
   replace c1 := keeps hbl h1 c1
   replace c2 := keeps hbl h2 c2
   clear ha hb
   go_wp2
   go_quiet (fail)
   go_wp2
   go_roundw
   case rel => exact ⟨k + 1, by omega, by go_num, drews hbl _⟩
   case measure => simp [intOf]; omega
  ·clear ha hb
   go_wp2
   go_ret
   exact ⟨rfl, hbl⟩

end Go.Proofs.YtbjbjbnbapeajaaGreatDoor

namespace Go.Proofs.YtbjbjbnbapeajaaGreatDoor
open Go Go.RowKit

set_option maxHeartbeats 400000 in
theorem eqInt64SS_same (va vb : Value) (lo lo' : Nat) (xss : List (List Int)) (w : World) (hva : IntssAt lo w va xss) (hvb : IntssAt lo' w vb xss) :
  Calls Tryz.prog 14 #[va, vb] w fun e w' => e = .returned (.bool true) ∧ Below w.heap.size w w' := by
 obtain ⟨us, hu, ⟨a, ca, rfl, hna, hca, ha⟩, hus⟩ := hva
 obtain ⟨vs, hv, ⟨b, cb, rfl, hnb, hcb, hb⟩, hvs⟩ := hvb
 have HU := Lib.hid hus
 have HV := Lib.hid hvs
 have HL := Lib.hid hu
 have HM := Lib.hid hv
 have hl : us.length = vs.length := by omega
 rw [← hl] at hnb ⊢
 have HN := Lib.hid hl
 clear hu hv hus hvs hl
 go_enter Tryz.func14, Tryz.ntmps14
 go_wp2
 go_loopw [5] (fun i wr => ∃ k : Nat, k ≤ us.length ∧ i = .int .i64 k ∧ Below w.heap.size w wr) (fun i _ => us.length - (intOf i).toNat)
 case atStart => exact ⟨0, Nat.zero_le _, rfl, Below.refl _ _⟩
 case round =>
  obtain ⟨k, hk, rfl, hbl⟩ := hrel
  by_cases hlt : k < us.length
  ·have hlv : k < vs.length := by have := HN.out; omega
   have hlx : k < xss.length := by have := HL.out; omega
   obtain ⟨b1, o1, rfl, -, h1, c1⟩ := (ha.below hbl).one hlt
   obtain ⟨b2, o2, rfl, -, h2, c2⟩ := (hb.below hbl).one hlv
   have s1 := (HU.out k hlt hlx).below hbl
   have s2 := (HV.out k hlv hlx).below hbl
   generalize us[k] = p1 at *
   generalize vs[k] = p2 at *
   generalize xss[k] = ys at *
   have S1 := Lib.hid s1
   have S2 := Lib.hid s2
   obtain ⟨_, _, rfl, -⟩ := s1
   obtain ⟨_, _, rfl, -⟩ := s2
   simp only [encV, List.getElem?_cons_zero] at c1 c2
   replace c1 := later_cell h1 c1
   replace c2 := later_cell h2 c2
   clear ha hb
   go_wp2
   refine wp_region_later (by kernel_rfl) (by kernel_rfl) ?_
   repeat (go_big_quiet_step ((go_at_call 37; exact later_call (eqInt64S_same _ _ _ _ _ _ (SliceK.below S1.out (Later.h _)) (SliceK.below S2.out (Later.h _))))))
   refine wpQuiet_nil ?_
   intro _ hw9
   obtain ⟨nl, hw8⟩ := hw9
   subst hw8
   go_wp2
   go_roundw
   case rel => exact ⟨k + 1, by omega, by go_num, hbl.trans (nl.h.mono hbl.size)⟩
   case measure => simp [intOf]; omega
  ·clear ha hb
   go_wp2
   go_ret
   exact ⟨rfl, hbl⟩

end Go.Proofs.YtbjbjbnbapeajaaGreatDoor
