/-
  What the implementation's ValidLts computes.
  ValidLts at a valid system, and at one that is not; boxes.
  What the implementation's follow and step compute at one state of a deterministic system.
  What the implementation's step computes in a deterministic system.
-/
import Derived.Test.YtpoleaekcjjedaaGreatDoorF5
import Derived.Test.YtpoleaekcjjedaaGreatDoorF13
import Derived.Test.YtpoleaekcjjedaaGreatDoorF2
import Derived.Test.YtpoleaekcjjedaaGreatDoorF8
import Derived.Test.YtpoleaekcjjedaaGreatDoorF6
namespace Go.Proofs.YtpoleaekcjjedaaGreatDoor
open Go Go.RowKit

def Short20 (ss : List ByteArray) : Prop := ∀ i (h : i < ss.length), ss[i].size ≤ 1048576

theorem within_is {n lo hi : Int} {b : Bool} (h : inB n lo hi = b) (w : World) : Calls Tryz.prog 120 #[.int .i64 n, .int .i64 lo, .int .i64 hi] w fun e w' => e = .returned (.bool b) ∧ w = w' := by
 subst h; exact within_any n lo hi w
theorem isState_is {lv ev : Value} {s i k : Int} {b : Bool} (h : inB k 0 (s - 1) = b) (w : World) (h1 : 1 ≤ s) (h2 : s ≤ 40) :
  Calls Tryz.prog 121 #[.agg #[.int .i64 s, .int .i64 i, lv, ev], .int .i64 k] w fun e w' => e = .returned (.bool b) ∧ Below w.heap.size w w' := by
 subst h; exact isState_any lv ev s i k w h1 h2
theorem IsLabel_is {s : ByteArray} {b : Bool} (h : labelOk s.data.toList = b) (w : World) (hs : s.size ≤ 1048576) (g : Glob w) :
  Calls Tryz.prog 122 #[.string s] w fun e w' => e = .returned (.bool b) ∧ Below w.heap.size w w' := by
 subst h; rw [← readOk_eq]; exact IsLabel_any s w hs g

theorem index_in (n m : Int) (w : World) (h1 : -9223372036854775807 ≤ m) (h2 : m ≤ 9223372036854775807) : Calls Tryz.prog 123 #[.int .i64 n, .int .i64 m] w fun e w' => e = .returned (.bool (inB n 0 (m - 1))) ∧ w = w' :=
 index_any n m w h1 h2

/-- The first k labels are as they must be. -/
def GoodTo (ls : List ByteArray) (k : Nat) : Prop :=
 ∀ q (h : q < ls.length), q < k → labelOk ls[q].data.toList = true ∧ (ls[q].toList == tauB) = decide (q = 0) ∧ ∀ (_ : 1 < q), strLess ls[q - 1] ls[q] = true

theorem GoodTo.succ {ls : List ByteArray} {k : Nat} (h : GoodTo ls k) (hk : k < ls.length) (h1 : labelOk ls[k].data.toList = true) (h2 : (ls[k].toList == tauB) = decide (k = 0)) (h3 : ∀ (_ : 1 < k), strLess ls[k - 1] ls[k] = true) : GoodTo ls (k + 1) := by
 intro q hq hlt
 by_cases e : q = k
 ·subst e; exact ⟨h1, h2, h3⟩
 ·exact h q hq (by omega)
theorem GoodTo.all {ls : List ByteArray} (h : GoodTo ls ls.length) (h1 : 1 ≤ ls.length) (h2 : ls.length ≤ 12) : LabelsOk ls :=
 ⟨h1, h2, fun hp => by simpa using (h 0 hp hp).2.1, fun i hi _ => (h i hi hi).1, fun i hi h1 => by
  have := (h i hi hi).2.1
  rw [decide_eq_false (by omega)] at this
  simpa using this, fun i hi h1 => (h (i + 1) hi hi).2.2 (by omega)⟩
theorem LabelsOk.all {ls : List ByteArray} (h : LabelsOk ls) (q : Nat) (hq : q < ls.length) : labelOk ls[q].data.toList = true := by
 by_cases e : q = 0
 ·subst e
  have := h.first hq
  rw [Lib.toList_data] at this
  rw [this]
  decide
 ·exact h.label q hq (by omega)

set_option maxRecDepth 100000 in
set_option maxHeartbeats 4000000 in
theorem ValidLts_any (lo : Nat) (t : Lts) (lv ev : Value) (w : World) (hsh : Short20 t.labels) (hl : SliceK 1 encS lo w lv t.labels) (he : SliceK 3 encE lo w ev t.edges) (g : Glob w) :
  Calls Tryz.prog 65 #[.agg #[.int .i64 t.states, .int .i64 t.initial, lv, ev]] w (Decides (Valid t) w) := by
 have HSH := Lib.hid hsh
 have G := Lib.hid g
 clear hsh g
 obtain ⟨al, cl, rfl, hln, hlc, hlr⟩ := hl
 obtain ⟨ae, ce, rfl, hen, hec, her⟩ := he
 have HLR := Lib.hid hlr
 have HER := Lib.hid her
 clear hlr her
 have HB0 : Hid (Below w.heap.size w (w.alloc (.cells #[.int .i64 t.states, .int .i64 t.initial, .slice al t.labels.length cl, .slice ae t.edges.length ce] 31))) := (Below.refl _ _).alloc (Nat.le_refl _) _
 cases hA : inB t.states 1 40
 ·have HA := Lib.hid hA
  clear hA
  go_enter Tryz.func65, Tryz.ntmps65
  go_wp2_with fail
  refine (within_is HA.out _).mono ?_
  rintro e w' ⟨rfl, rfl⟩
  go_wp2_with fail
  go_ret
  exact ⟨false, rfl, ⟨(fun h => by cases h), fun h => absurd ⟨h.st0, h.st1⟩ (inB_not HA.out)⟩, HB0.out⟩
 ·have hA1 : 1 ≤ t.states := (inB_iff.1 hA).1
  have hA2 : t.states ≤ 40 := (inB_iff.1 hA).2
  have HA := Lib.hid hA
  clear hA
  cases hB : inB t.initial 0 (t.states - 1)
  ·have HB := Lib.hid hB
   clear hB
   go_enter Tryz.func65, Tryz.ntmps65
   go_wp2_with fail
   refine (within_is HA.out _).mono ?_
   rintro e w' ⟨rfl, rfl⟩
   go_wp2_with fail
   refine (isState_is HB.out _ hA1 hA2).mono ?_
   rintro e w1 ⟨rfl, hb1⟩
   have HB1 := Lib.hid (HB0.out.trans (hb1.mono HB0.out.size))
   clear hb1
   go_wp2_with fail
   go_ret
   exact ⟨false, rfl, ⟨(fun h => by cases h), fun h => absurd ⟨h.in0, by have := h.in1; omega⟩ (inB_not HB.out)⟩, HB1.out⟩
  ·have HI : Hid (0 ≤ t.initial ∧ t.initial < t.states) := by unfold Hid; have := inB_iff.1 hB; omega
   have HB := Lib.hid hB
   clear hB
   cases hC : inB (t.labels.length : Int) 1 12
   ·have HC := Lib.hid hC
    clear hC
    go_enter Tryz.func65, Tryz.ntmps65
    go_wp2_with fail
    refine (within_is HA.out _).mono ?_
    rintro e w' ⟨rfl, rfl⟩
    go_wp2_with fail
    refine (isState_is HB.out _ hA1 hA2).mono ?_
    rintro e w1 ⟨rfl, hb1⟩
    have HB1 := Lib.hid (HB0.out.trans (hb1.mono HB0.out.size))
    have q2 : w1.cell? ⟨w.heap.size, 2, none⟩ = some (.slice al t.labels.length cl) := keeps hb1 (by simp) (by simp)
    clear hb1
    go_wp2_with fail
    refine (within_is HC.out _).mono ?_
    rintro e w' ⟨rfl, rfl⟩
    go_wp2_with fail
    go_ret
    exact ⟨false, rfl, ⟨(fun h => by cases h), fun h => by have h1 := h.labels.pos; have h2 := h.labels.most; exact (inB_not HC.out ⟨by omega, by omega⟩).elim⟩, HB1.out⟩
   ·have hC1 : 1 ≤ t.labels.length ∧ t.labels.length ≤ 12 := by have := inB_iff.1 hC; omega
    have HC := Lib.hid hC
    clear hC
    by_cases hD : 300 < (t.edges.length : Int)
    ·go_enter Tryz.func65, Tryz.ntmps65
     go_wp2_with fail
     refine (within_is HA.out _).mono ?_
     rintro e w' ⟨rfl, rfl⟩
     go_wp2_with fail
     refine (isState_is HB.out _ hA1 hA2).mono ?_
     rintro e w1 ⟨rfl, hb1⟩
     have HB1 := Lib.hid (HB0.out.trans (hb1.mono HB0.out.size))
     have q2 : w1.cell? ⟨w.heap.size, 2, none⟩ = some (.slice al t.labels.length cl) := keeps hb1 (by simp) (by simp)
     have q3 : w1.cell? ⟨w.heap.size, 3, none⟩ = some (.slice ae t.edges.length ce) := keeps hb1 (by simp) (by simp)
     clear hb1
     go_wp2_with fail
     refine (within_is HC.out _).mono ?_
     rintro e w' ⟨rfl, rfl⟩
     go_wp2_with fail
     go_ret
     exact ⟨false, rfl, ⟨(fun h => by cases h), fun h => by have h1 := h.most; omega⟩, HB1.out⟩
    ·go_enter Tryz.func65, Tryz.ntmps65
     go_wp2_with fail
     refine (within_is HA.out _).mono ?_
     rintro e w' ⟨rfl, rfl⟩
     go_wp2_with fail
     refine (isState_is HB.out _ hA1 hA2).mono ?_
     rintro e w1 ⟨rfl, hb1⟩
     have HB1 := Lib.hid (HB0.out.trans (hb1.mono HB0.out.size))
     have q0 : w1.cell? ⟨w.heap.size, 0, none⟩ = some (.int .i64 t.states) := keeps hb1 (by simp) (by simp)
     have q1 : w1.cell? ⟨w.heap.size, 1, none⟩ = some (.int .i64 t.initial) := keeps hb1 (by simp) (by simp)
     have q2 : w1.cell? ⟨w.heap.size, 2, none⟩ = some (.slice al t.labels.length cl) := keeps hb1 (by simp) (by simp)
     have q3 : w1.cell? ⟨w.heap.size, 3, none⟩ = some (.slice ae t.edges.length ce) := keeps hb1 (by simp) (by simp)
     have hbz : w.heap.size < w1.heap.size := by have := hb1.size; simp at this; omega
     clear hb1 HB0
     go_wp2_with fail
     refine (within_is HC.out _).mono ?_
     rintro e w' ⟨rfl, rfl⟩
     go_wp2_with fail
     have Q0 := Lib.hid q0
     have Q1 := Lib.hid q1
     have Q2 := Lib.hid q2
     have Q3 := Lib.hid q3
     have HLR1 := Lib.hid (HLR.out.below HB1.out)
     have HER1 := Lib.hid (HER.out.below HB1.out)
     have G1 := Lib.hid (G.out.below HB1.out)
     clear q0 q1 q2 q3 HLR HER G
     obtain ⟨b0, hb0⟩ : ∃ b0, b0 = w.heap.size := ⟨_, rfl⟩
     rw [← hb0] at hbz Q0 Q1 Q2 Q3
     simp only [← hb0]
     have HB00 := Lib.hid hb0
     clear hb0
     go_loopw [34] (fun i wr => ∃ k : Nat, k ≤ t.labels.length ∧ i = .int .i64 k ∧ Below w1.heap.size w1 wr ∧ GoodTo t.labels k) (fun i _ => t.labels.length - (intOf i).toNat)
     case atStart => exact ⟨0, Nat.zero_le _, rfl, Below.refl _ _, fun _ _ h => by omega⟩
     case round =>
      obtain ⟨k, hk, rfl, hbl, hgd⟩ := hrel
      have HBL := Lib.hid hbl
      have HGD := Lib.hid hgd
      have hsz := hbl.size
      clear hgd
      by_cases hlt : k < t.labels.length
      ·have hshk := HSH.out k hlt
       obtain ⟨bl, ol, rfl, -, hbs, c1⟩ := (HLR1.out.below hbl).one hlt
       simp only [encS, List.getElem?_cons_zero] at c1
       have q2 := keeps hbl hbz Q2.out
       obtain ⟨s, hs⟩ : ∃ s, s = t.labels[k] := ⟨_, rfl⟩
       rw [← hs] at c1 hshk
       have HS := Lib.hid hs
       have GR := Lib.hid (G1.out.below hbl)
       have HRR := Lib.hid (HLR1.out.below hbl)
       clear hs hbl
       cases h1 : labelOk s.data.toList
       ·have H1 := Lib.hid h1
        clear h1
        go_wp2_with fail
        refine (IsLabel_is H1.out _ hshk GR.out).mono ?_
        rintro e w2 ⟨rfl, hb2⟩
        have HB2 := Lib.hid (HBL.out.trans (hb2.mono hsz))
        clear hb2
        go_wp2_with fail
        go_ret
        refine ⟨false, rfl, ⟨(fun h => by cases h), fun h => ?_⟩, HB1.out.trans (HB2.out.mono HB1.out.size)⟩
        have := h.labels.all k hlt
        rw [← HS.out, H1.out] at this
        cases this
       ·have H1 := Lib.hid h1
        clear h1
        have HRL := Lib.hid (HLR1.out.below HBL.out)
        cases h2 : (s.toList == [116, 97, 117])
        ·have H2 : Hid ((t.labels[k].toList == tauB) = false) := by unfold Hid; rw [← HS.out]; exact h2
         rcases Nat.eq_zero_or_pos k with hk0 | hk0
         ·have hz : ((k : Int) == 0) = true := by rw [beq_iff_eq]; omega
          have HK0 : Hid (k = 0) := hk0
          clear hk0
          go_wp2_with fail
          refine (IsLabel_is H1.out _ hshk GR.out).mono ?_
          rintro e w2 ⟨rfl, hb2⟩
          have HB2 := Lib.hid (HBL.out.trans (hb2.mono hsz))
          clear hb2
          go_wp2_with fail
          go_ret
          refine ⟨false, rfl, ⟨(fun h => by cases h), fun h => ?_⟩, HB1.out.trans (HB2.out.mono HB1.out.size)⟩
          have hk0 : k = 0 := HK0.out
          subst hk0
          have h3 := h.labels.first hlt
          have h4 := H2.out
          rw [h3] at h4
          simp at h4
         ·have hz : ((k : Int) == 0) = false := by rw [beq_eq_false_iff_ne]; omega
          by_cases hk1 : 1 < k
          ·obtain ⟨m, rfl⟩ : ∃ m, k = m + 1 := ⟨k - 1, by omega⟩
           obtain ⟨_, _, e9, -, -, c0⟩ := HRL.out.one (show m < t.labels.length by omega)
           simp only [Option.some.injEq, Addr.mk.injEq, and_true] at e9
           obtain ⟨rfl, rfl⟩ := e9
           simp only [encS, List.getElem?_cons_zero] at c0
           obtain ⟨s0, hs0⟩ : ∃ s0, s0 = t.labels[m] := ⟨_, rfl⟩
           rw [← hs0] at c0
           have HS0 := Lib.hid hs0
           clear hs0
           cases h3 : Op.bytesLess s0.toList s.toList
           ·have h4 : (Op.bytesLess s.toList s0.toList || s.toList == s0.toList) = true := by rw [less_leq, h3]; rfl
            have H3 := Lib.hid h3
            clear h3
            go_wp2_with fail
            refine (IsLabel_is H1.out _ hshk GR.out).mono ?_
            rintro e w2 ⟨rfl, hb2⟩
            have q2' := keeps hb2 (by omega) q2
            have c0' := keeps hb2 hbs c0
            have HB2 := Lib.hid (HBL.out.trans (hb2.mono hsz))
            clear hb2
            go_wp2_with fail
            go_ret
            refine ⟨false, rfl, ⟨(fun h => by cases h), fun h => ?_⟩, HB1.out.trans (HB2.out.mono HB1.out.size)⟩
            have h5 := h.labels.rise m hlt (by omega)
            unfold strLess at h5
            rw [← HS0.out, ← HS.out, H3.out] at h5
            cases h5
           ·have h4 : (Op.bytesLess s.toList s0.toList || s.toList == s0.toList) = false := by rw [less_leq, h3]; rfl
            have H3 := Lib.hid h3
            clear h3
            go_wp2_with fail
            refine (IsLabel_is H1.out _ hshk GR.out).mono ?_
            rintro e w2 ⟨rfl, hb2⟩
            have q2' := keeps hb2 (by omega) q2
            have c0' := keeps hb2 hbs c0
            have HB2 := Lib.hid (HBL.out.trans (hb2.mono hsz))
            clear hb2
            go_wp2_with fail
            go_roundw
            case rel => exact ⟨m + 1 + 1, by omega, by go_num, HB2.out, HGD.out.succ hlt (by rw [← HS.out]; exact H1.out) (by rw [H2.out, decide_eq_false (by omega)]) (fun _ => by
             unfold strLess
             simp only [Nat.add_sub_cancel]
             rw [← HS0.out, ← HS.out]; exact H3.out)⟩
            case measure => simp [intOf]; omega
          ·have hk2 : decide (1 < (k : Int)) = false := by rw [decide_eq_false_iff_not]; omega
           have hk3 : ¬ 1 < (k : Int) := by omega
           go_wp2_with fail
           refine (IsLabel_is H1.out _ hshk GR.out).mono ?_
           rintro e w2 ⟨rfl, hb2⟩
           have HB2 := Lib.hid (HBL.out.trans (hb2.mono hsz))
           clear hb2
           go_wp2_with fail
           go_roundw
           case rel => exact ⟨k + 1, by omega, by go_num, HB2.out, HGD.out.succ hlt (by rw [← HS.out]; exact H1.out) (by rw [H2.out, decide_eq_false (by omega)]) (fun h => absurd h hk1)⟩
           case measure => simp [intOf]; omega
        ·have H2 : Hid ((t.labels[k].toList == tauB) = true) := by unfold Hid; rw [← HS.out]; exact h2
         rcases Nat.eq_zero_or_pos k with hk0 | hk0
         ·have hz : ((k : Int) == 0) = true := by rw [beq_iff_eq]; omega
          have HK0 : Hid (k = 0) := hk0
          have hk2 : decide (1 < (k : Int)) = false := by rw [decide_eq_false_iff_not]; omega
          have hk3 : ¬ 1 < (k : Int) := by omega
          clear hk0
          go_wp2_with fail
          refine (IsLabel_is H1.out _ hshk GR.out).mono ?_
          rintro e w2 ⟨rfl, hb2⟩
          have HB2 := Lib.hid (HBL.out.trans (hb2.mono hsz))
          clear hb2
          go_wp2_with fail
          go_roundw
          case rel => exact ⟨k + 1, by omega, by go_num, HB2.out, HGD.out.succ hlt (by rw [← HS.out]; exact H1.out) (by rw [H2.out, decide_eq_true HK0.out]) (fun h => by have := HK0.out; omega)⟩
          case measure => simp [intOf]; omega
         ·have hz : ((k : Int) == 0) = false := by rw [beq_eq_false_iff_ne]; omega
          go_wp2_with fail
          refine (IsLabel_is H1.out _ hshk GR.out).mono ?_
          rintro e w2 ⟨rfl, hb2⟩
          have HB2 := Lib.hid (HBL.out.trans (hb2.mono hsz))
          clear hb2
          go_wp2_with fail
          go_ret
          refine ⟨false, rfl, ⟨(fun h => by cases h), fun h => ?_⟩, HB1.out.trans (HB2.out.mono HB1.out.size)⟩
          have h3 := h.labels.other k hlt hk0
          have h4 := H2.out
          exact absurd (by simpa using h4) h3
      ·obtain rfl : k = t.labels.length := by omega
       have HLO : Hid (LabelsOk t.labels) := HGD.out.all hC1.1 hC1.2
       have q3 := keeps hbl hbz Q3.out
       clear HGD hbl HLR1 HSH G1
       obtain ⟨w2, hw2⟩ : ∃ w2, w2 = wr := ⟨_, rfl⟩
       go_wp2_with fail
       go_loopw [67] (fun i wr2 => ∃ k : Nat, k ≤ t.edges.length ∧ i = .int .i64 k ∧ Below w1.heap.size w1 wr2 ∧ (∀ q (h : q < t.edges.length), q < k → EdgeOk t t.edges[q]) ∧ (∀ q (h : q + 1 < t.edges.length), q + 1 < k → edgeLess t.edges[q] t.edges[q + 1] = true)) (fun i _ => t.edges.length - (intOf i).toNat)
       case atStart => exact ⟨0, Nat.zero_le _, rfl, HBL.out, fun _ _ h => by omega, fun _ _ h => by omega⟩
       case round =>
        obtain ⟨k, hk, rfl, hbl, hx1, hx2⟩ := hrel
        have HX1 := Lib.hid hx1
        have HX2 := Lib.hid hx2
        have HBE := Lib.hid hbl
        have hsz := hbl.size
        have q0 := keeps hbl hbz Q0.out
        have q1 := keeps hbl hbz Q1.out
        have q2 := keeps hbl hbz Q2.out
        have q3 := keeps hbl hbz Q3.out
        clear hx1 hx2 hbl
        by_cases hlt : k < t.edges.length
        ·have hml := hen
         obtain ⟨be, oe, rfl, -, hbe, e1, e2, e3⟩ := (HER1.out.below HBE.out).edge hlt
         have HROW := Lib.hid (HER1.out.below HBE.out)
         have HE := Lib.hid (show EdgeOk t t.edges[k] ↔ (inB t.edges[k].src 0 (t.states - 1) = true ∧ inB t.edges[k].dst 0 (t.states - 1) = true) ∧ inB t.edges[k].lab 0 ((t.labels.length : Int) - 1) = true from edgeOk_iff t _)
         obtain ⟨e, hee⟩ : ∃ e, e = t.edges[k] := ⟨_, rfl⟩
         rw [← hee] at e1 e2 e3 HE
         have HEE := Lib.hid hee
         clear hee
         have HO : Below wr.heap.size wr (wr.alloc (.cells #[.int .i64 e.src, .int .i64 e.lab, .int .i64 e.dst] 135)) := (Below.refl _ _).alloc (Nat.le_refl _) _
         have s0 := later_cell (w0 := wr.alloc (.cells #[.int .i64 e.src, .int .i64 e.lab, .int .i64 e.dst] 135)) (b := b0) (by simp; omega) (keeps HO (by omega) q0)
         have s1 := later_cell (w0 := wr.alloc (.cells #[.int .i64 e.src, .int .i64 e.lab, .int .i64 e.dst] 135)) (b := b0) (by simp; omega) (keeps HO (by omega) q1)
         have s2 := later_cell (w0 := wr.alloc (.cells #[.int .i64 e.src, .int .i64 e.lab, .int .i64 e.dst] 135)) (b := b0) (by simp; omega) (keeps HO (by omega) q2)
         have s3 := later_cell (w0 := wr.alloc (.cells #[.int .i64 e.src, .int .i64 e.lab, .int .i64 e.dst] 135)) (b := b0) (by simp; omega) (keeps HO (by omega) q3)
         have t0 := later_cell (w0 := wr.alloc (.cells #[.int .i64 e.src, .int .i64 e.lab, .int .i64 e.dst] 135)) (b := wr.heap.size) (o := 0) (v := .int .i64 e.src) (by simp) (by simp)
         have t1 := later_cell (w0 := wr.alloc (.cells #[.int .i64 e.src, .int .i64 e.lab, .int .i64 e.dst] 135)) (b := wr.heap.size) (o := 1) (v := .int .i64 e.lab) (by simp) (by simp)
         have t2 := later_cell (w0 := wr.alloc (.cells #[.int .i64 e.src, .int .i64 e.lab, .int .i64 e.dst] 135)) (b := wr.heap.size) (o := 2) (v := .int .i64 e.dst) (by simp) (by simp)
         have HO2 := Lib.hid HO
         rcases Nat.eq_zero_or_pos k with hk0 | hk0
         ·have hkz : ¬ (0 : Int) < (k : Int) := by omega
          have hkd : decide ((0 : Int) < (k : Int)) = false := by rw [decide_eq_false_iff_not]; exact hkz
          have hkd2 : decide (0 < k) = false := by rw [decide_eq_false_iff_not]; omega
          have hkz2 : ¬ 0 < k := by omega
          have HK0 : Hid (k = 0) := hk0
          clear hk0 HO hml
          cases g1 : inB e.src 0 (t.states - 1)
          ·have HG := Lib.hid g1
           go_wp2_with fail
           refine wp_region_later (by kernel_rfl) (by kernel_rfl) ?_
           repeat (go_big_quiet_step ((first | (go_at_call 121; exact later_call (isState_any _ _ _ _ _ _ hA1 hA2)) | (go_at_call 123; exact later_same (index_in _ _ _ (by omega) (by omega))))))
           refine wpQuiet_nil ?_
           intro _ hw9
           obtain ⟨nl, hw8⟩ := hw9
           subst hw8
           go_wp2_with fail
           go_ret
           refine ⟨false, rfl, ⟨(fun h => by cases h), fun h => ?_⟩, HB1.out.trans ((HBE.out.trans ((HO2.out.trans (nl.h.mono (by simp))).mono hsz)).mono HB1.out.size)⟩
           have h2 := h.edge k hlt
           rw [← HEE.out, HE.out, HG.out] at h2
           exact absurd h2.1.1 (by simp)
          ·cases g2 : inB e.dst 0 (t.states - 1)
           ·have HG := Lib.hid g2
            go_wp2_with fail
            refine wp_region_later (by kernel_rfl) (by kernel_rfl) ?_
            repeat (go_big_quiet_step ((first | (go_at_call 121; exact later_call (isState_any _ _ _ _ _ _ hA1 hA2)) | (go_at_call 123; exact later_same (index_in _ _ _ (by omega) (by omega))))))
            refine wpQuiet_nil ?_
            intro _ hw9
            obtain ⟨nl, hw8⟩ := hw9
            subst hw8
            go_wp2_with fail
            go_ret
            refine ⟨false, rfl, ⟨(fun h => by cases h), fun h => ?_⟩, HB1.out.trans ((HBE.out.trans ((HO2.out.trans (nl.h.mono (by simp))).mono hsz)).mono HB1.out.size)⟩
            have h2 := h.edge k hlt
            rw [← HEE.out, HE.out, HG.out] at h2
            exact absurd h2.1.2 (by simp)
           ·cases g3 : inB e.lab 0 ((t.labels.length : Int) - 1)
            ·have HG := Lib.hid g3
             go_wp2_with fail
             refine wp_region_later (by kernel_rfl) (by kernel_rfl) ?_
             repeat (go_big_quiet_step ((first | (go_at_call 121; exact later_call (isState_any _ _ _ _ _ _ hA1 hA2)) | (go_at_call 123; exact later_same (index_in _ _ _ (by omega) (by omega))))))
             refine wpQuiet_nil ?_
             intro _ hw9
             obtain ⟨nl, hw8⟩ := hw9
             subst hw8
             go_wp2_with fail
             go_ret
             refine ⟨false, rfl, ⟨(fun h => by cases h), fun h => ?_⟩, HB1.out.trans ((HBE.out.trans ((HO2.out.trans (nl.h.mono (by simp))).mono hsz)).mono HB1.out.size)⟩
             have h2 := h.edge k hlt
             rw [← HEE.out, HE.out, HG.out] at h2
             exact absurd h2.2 (by simp)
            ·have HEK : Hid (EdgeOk t t.edges[k]) := by unfold Hid; rw [← HEE.out, HE.out]; exact ⟨⟨g1, g2⟩, g3⟩
             go_wp2_with fail
             refine wp_region_later (by kernel_rfl) (by kernel_rfl) ?_
             repeat (go_big_quiet_step ((first | (go_at_call 121; exact later_call (isState_any _ _ _ _ _ _ hA1 hA2)) | (go_at_call 123; exact later_same (index_in _ _ _ (by omega) (by omega))))))
             refine wpQuiet_nil ?_
             intro _ hw9
             obtain ⟨nl, hw8⟩ := hw9
             subst hw8
             clear g1 g2 g3 t0 t1 t2 s0 s1 s2 s3
             go_wp2_with fail
             go_roundw
             case rel => exact ⟨k + 1, by omega, by go_num, HBE.out.trans ((HO2.out.trans (nl.h.mono (by simp))).mono hsz), fun q h h' => by
               obtain rfl : q = k := by have := HK0.out; omega
               exact HEK.out, fun q h h' => by have := HK0.out; omega⟩
             case measure => simp [intOf]; omega
         ·obtain ⟨m, rfl⟩ : ∃ m, k = m + 1 := ⟨k - 1, by omega⟩
          obtain ⟨_, _, e9, -, -, d1, d2, d3⟩ := HROW.out.edge (show m < t.edges.length by omega)
          simp only [Option.some.injEq, Addr.mk.injEq, and_true] at e9
          obtain ⟨rfl, rfl⟩ := e9
          replace d1 := later_cell (w0 := wr.alloc (.cells #[.int .i64 e.src, .int .i64 e.lab, .int .i64 e.dst] 135)) (b := be) (by simp; omega) (keeps HO hbe d1)
          replace d2 := later_cell (w0 := wr.alloc (.cells #[.int .i64 e.src, .int .i64 e.lab, .int .i64 e.dst] 135)) (b := be) (by simp; omega) (keeps HO hbe d2)
          replace d3 := later_cell (w0 := wr.alloc (.cells #[.int .i64 e.src, .int .i64 e.lab, .int .i64 e.dst] 135)) (b := be) (by simp; omega) (keeps HO hbe d3)
          have hkd : decide ((0 : Int) < (m : Int) + 1) = true := by rw [decide_eq_true_eq]; omega
          clear hk0 HO hml
          cases g1 : inB e.src 0 (t.states - 1)
          ·have HG := Lib.hid g1
           go_wp2_with fail
           refine wp_region_later (by kernel_rfl) (by kernel_rfl) ?_
           repeat (go_big_quiet_step ((first | (go_at_call 121; exact later_call (isState_any _ _ _ _ _ _ hA1 hA2)) | (go_at_call 123; exact later_same (index_in _ _ _ (by omega) (by omega))) | (go_at_call 124; exact later_call (compareEdges_any t.edges[m] e _)))))
           refine wpQuiet_nil ?_
           intro _ hw9
           obtain ⟨nl, hw8⟩ := hw9
           subst hw8
           go_wp2_with fail
           go_ret
           refine ⟨false, rfl, ⟨(fun h => by cases h), fun h => ?_⟩, HB1.out.trans ((HBE.out.trans ((HO2.out.trans (nl.h.mono (by simp))).mono hsz)).mono HB1.out.size)⟩
           have h2 := h.edge (m + 1) hlt
           rw [← HEE.out, HE.out, HG.out] at h2
           exact absurd h2.1.1 (by simp)
          ·cases g2 : inB e.dst 0 (t.states - 1)
           ·have HG := Lib.hid g2
            go_wp2_with fail
            refine wp_region_later (by kernel_rfl) (by kernel_rfl) ?_
            repeat (go_big_quiet_step ((first | (go_at_call 121; exact later_call (isState_any _ _ _ _ _ _ hA1 hA2)) | (go_at_call 123; exact later_same (index_in _ _ _ (by omega) (by omega))) | (go_at_call 124; exact later_call (compareEdges_any t.edges[m] e _)))))
            refine wpQuiet_nil ?_
            intro _ hw9
            obtain ⟨nl, hw8⟩ := hw9
            subst hw8
            go_wp2_with fail
            go_ret
            refine ⟨false, rfl, ⟨(fun h => by cases h), fun h => ?_⟩, HB1.out.trans ((HBE.out.trans ((HO2.out.trans (nl.h.mono (by simp))).mono hsz)).mono HB1.out.size)⟩
            have h2 := h.edge (m + 1) hlt
            rw [← HEE.out, HE.out, HG.out] at h2
            exact absurd h2.1.2 (by simp)
           ·cases g3 : inB e.lab 0 ((t.labels.length : Int) - 1)
            ·have HG := Lib.hid g3
             go_wp2_with fail
             refine wp_region_later (by kernel_rfl) (by kernel_rfl) ?_
             repeat (go_big_quiet_step ((first | (go_at_call 121; exact later_call (isState_any _ _ _ _ _ _ hA1 hA2)) | (go_at_call 123; exact later_same (index_in _ _ _ (by omega) (by omega))) | (go_at_call 124; exact later_call (compareEdges_any t.edges[m] e _)))))
             refine wpQuiet_nil ?_
             intro _ hw9
             obtain ⟨nl, hw8⟩ := hw9
             subst hw8
             go_wp2_with fail
             go_ret
             refine ⟨false, rfl, ⟨(fun h => by cases h), fun h => ?_⟩, HB1.out.trans ((HBE.out.trans ((HO2.out.trans (nl.h.mono (by simp))).mono hsz)).mono HB1.out.size)⟩
             have h2 := h.edge (m + 1) hlt
             rw [← HEE.out, HE.out, HG.out] at h2
             exact absurd h2.2 (by simp)
            ·have HEK : Hid (EdgeOk t t.edges[m + 1]) := by unfold Hid; rw [← HEE.out, HE.out]; exact ⟨⟨g1, g2⟩, g3⟩
             cases g4 : edgeLess t.edges[m] e
             ·have HG := Lib.hid g4
              have g5 : decide (0 ≤ cmpE t.edges[m] e) = true := by rw [cmpE_less, g4]; rfl
              clear g4
              go_wp2_with fail
              refine wp_region_later (by kernel_rfl) (by kernel_rfl) ?_
              repeat (go_big_quiet_step ((first | (go_at_call 121; exact later_call (isState_any _ _ _ _ _ _ hA1 hA2)) | (go_at_call 123; exact later_same (index_in _ _ _ (by omega) (by omega))) | (go_at_call 124; exact later_call (compareEdges_any t.edges[m] e _)))))
              refine wpQuiet_nil ?_
              intro _ hw9
              obtain ⟨nl, hw8⟩ := hw9
              subst hw8
              go_wp2_with fail
              go_ret
              refine ⟨false, rfl, ⟨(fun h => by cases h), fun h => ?_⟩, HB1.out.trans ((HBE.out.trans ((HO2.out.trans (nl.h.mono (by simp))).mono hsz)).mono HB1.out.size)⟩
              have h2 := h.rise m hlt
              rw [← HEE.out, HG.out] at h2
              cases h2
             ·have HG := Lib.hid g4
              have g5 : decide (0 ≤ cmpE t.edges[m] e) = false := by rw [cmpE_less, g4]; rfl
              clear g4
              go_wp2_with fail
              refine wp_region_later (by kernel_rfl) (by kernel_rfl) ?_
              repeat (go_big_quiet_step ((first | (go_at_call 121; exact later_call (isState_any _ _ _ _ _ _ hA1 hA2)) | (go_at_call 123; exact later_same (index_in _ _ _ (by omega) (by omega))) | (go_at_call 124; exact later_call (compareEdges_any t.edges[m] e _)))))
              refine wpQuiet_nil ?_
              intro _ hw9
              obtain ⟨nl, hw8⟩ := hw9
              subst hw8
              clear g1 g2 g3 g5 t0 t1 t2 s0 s1 s2 s3 d1 d2 d3
              go_wp2_with fail
              go_roundw
              case rel => exact ⟨m + 1 + 1, by omega, by go_num, HBE.out.trans ((HO2.out.trans (nl.h.mono (by simp))).mono hsz), fun q h h' => by
                by_cases e9 : q = m + 1
                ·subst e9; exact HEK.out
                ·exact HX1.out q h (by omega), fun q h h' => by
                by_cases e9 : q = m
                ·subst e9; rw [← HEE.out]; exact HG.out
                ·exact HX2.out q h (by omega)⟩
              case measure => simp [intOf]; omega
        ·go_wp2_with fail
         go_ret
         refine ⟨true, rfl, ⟨fun _ => ?_, fun _ => rfl⟩, HB1.out.trans (HBE.out.mono HB1.out.size)⟩
         exact ⟨hA1, hA2, HI.out.1, HI.out.2, HLO.out, by omega, fun q h => HX1.out q h (by omega), fun q h => HX2.out q h (by omega)⟩

end Go.Proofs.YtpoleaekcjjedaaGreatDoor

namespace Go.Proofs.YtpoleaekcjjedaaGreatDoor
open Go Go.RowKit

theorem Valid_yes {lo : Nat} {t : Lts} {lv ev : Value} {w : World} (hv : Valid t) (hsh : Short20 t.labels) (hl : SliceK 1 encS lo w lv t.labels) (he : SliceK 3 encE lo w ev t.edges) (g : Glob w) :
  Calls Tryz.prog 65 #[.agg #[.int .i64 t.states, .int .i64 t.initial, lv, ev]] w fun e w' => e = .returned (.bool true) ∧ Below w.heap.size w w' :=
 Decides.yes (ValidLts_any lo t lv ev w hsh hl he g) hv
theorem Valid_no {lo : Nat} {t : Lts} {lv ev : Value} {w : World} (hv : ¬ Valid t) (hsh : Short20 t.labels) (hl : SliceK 1 encS lo w lv t.labels) (he : SliceK 3 encE lo w ev t.edges) (g : Glob w) :
  Calls Tryz.prog 65 #[.agg #[.int .i64 t.states, .int .i64 t.initial, lv, ev]] w fun e w' => e = .returned (.bool false) ∧ Below w.heap.size w w' :=
 Decides.no (ValidLts_any lo t lv ev w hsh hl he g) hv

theorem box_below (w : World) (a : Array Value) (T : TypeId) : Below w.heap.size w (w.alloc (.cells a T)) := (Below.refl _ _).alloc (Nat.le_refl _) _

theorem two_new' (w : World) (a b : Array Value) (T : TypeId) : Below w.heap.size w ((w.alloc (.cells a T)).alloc (.cells b T)) := (box_below _ _ _).alloc (by simp) _

end Go.Proofs.YtpoleaekcjjedaaGreatDoor

namespace Go.Proofs.YtpoleaekcjjedaaGreatDoor
open Go Go.RowKit

theorem Sort_one (a : Option Addr) (n cap : Nat) (w : World) (hn : n ≤ 1) :
  Calls Tryz.prog 203 #[.slice a n cap] w fun e w' => e = .returned (.tuple #[]) ∧ w = w' := by
 have h0 : (0 : Int) ≤ (n : Int) := by omega
 have h1 : (n : Int) ≤ 18446744073709551615 := by omega
 go_enter Tryz.func203, Tryz.ntmps203
 go_wp2_with fail
 refine (Tryz.bits_Len _ _ h0 h1).mono ?_
 rintro e w' ⟨rfl, rfl⟩
 go_wp2_with fail
 refine (pdq_one _ _ _ _ hn).mono ?_
 rintro e w' ⟨rfl, rfl⟩
 go_wp2_with fail
 go_end0
 exact ⟨rfl, rfl⟩

theorem info_int64x : (Tryz.prog.info? 2).map (fun i => (i.zero, i.size, i.bytes)) = some (some (.int .i64 0), 1, 8) := by kernel_rfl

theorem hit_take {p : Lts} {q : Int} {l : ByteArray} {k : Nat} (h : k < p.edges.length) (g : hitB p q l p.edges[k] = true) :
  ((p.edges.take (k + 1)).filter (hitB p q l)).map Edge.dst = ((p.edges.take k).filter (hitB p q l)).map Edge.dst ++ [p.edges[k].dst] := by
 rw [List.take_succ_eq_append_getElem h, List.filter_append, List.map_append]
 simp [g]
theorem miss_take {p : Lts} {q : Int} {l : ByteArray} {k : Nat} (h : k < p.edges.length) (g : hitB p q l p.edges[k] = false) :
  ((p.edges.take (k + 1)).filter (hitB p q l)).map Edge.dst = ((p.edges.take k).filter (hitB p q l)).map Edge.dst := by
 rw [List.take_succ_eq_append_getElem h, List.filter_append, List.map_append]
 simp [g]

set_option maxRecDepth 100000 in
set_option maxHeartbeats 2000000 in
theorem follow_one (lo lo2 : Nat) (p : Lts) (lv ev sv : Value) (q : Int) (l : ByteArray) (w : World) (hvp : Valid p) (hsp : Single p) (hl : SliceK 1 encS lo w lv p.labels) (he : SliceK 3 encE lo w ev p.edges) (hs : SliceK 1 encI lo2 w sv [q]) :
  Calls Tryz.prog 134 #[.agg #[.int .i64 p.states, .int .i64 p.initial, lv, ev], sv, .string l] w (MadeNums (behind p q l) w) := by
 have HS := Lib.hid hs
 have hone := behind_one hvp hsp q l
 have HE := Lib.hid hvp.edge
 have hmost := hvp.most
 clear hs hvp hsp
 obtain ⟨al, cl, rfl, hln, hlc, hlr⟩ := hl
 obtain ⟨ae, ce, rfl, hen, hec, hrow⟩ := he
 have HLR := Lib.hid hlr
 have HER := Lib.hid hrow
 clear hlr hrow
 obtain ⟨i0, hi, hz0, hz1, hz2⟩ := info_parts info_int64x
 have HB0 : Hid (Below w.heap.size w (w.alloc (.cells #[.int .i64 p.states, .int .i64 p.initial, .slice al p.labels.length cl, .slice ae p.edges.length ce] 31))) := (Below.refl _ _).alloc (Nat.le_refl _) _
 have HQ2 : Hid ((w.alloc (.cells #[.int .i64 p.states, .int .i64 p.initial, .slice al p.labels.length cl, .slice ae p.edges.length ce] 31)).cell? ⟨w.heap.size, 2, none⟩ = some (.slice al p.labels.length cl)) := by unfold Hid; simp
 obtain ⟨wB, hwB⟩ : ∃ wB, wB = w.alloc (.cells #[.int .i64 p.states, .int .i64 p.initial, .slice al p.labels.length cl, .slice ae p.edges.length ce] 31) := ⟨_, rfl⟩
 have hwz : wB.heap.size = w.heap.size + 1 := by rw [hwB]; simp
 rw [← hwB] at HB0 HQ2
 have HWB := Lib.hid hwB
 clear hwB
 go_enter Tryz.func134, Tryz.ntmps134
 go_wp2_with fail
 rw [← HWB.out]
 clear HWB
 go_loopw [7, 13] (fun v i wr => ∃ k : Nat, k ≤ p.edges.length ∧ i = .int .i64 k ∧ Below wB.heap.size wB wr ∧ wr.ownsRow wB.heap.size 2 1 v (((p.edges.take k).filter (hitB p q l)).map Edge.dst).length ((((p.edges.take k).filter (hitB p q l)).map Edge.dst).map (Value.int .i64))) (fun _ i _ => p.edges.length - (intOf i).toNat)
 case atStart => exact ⟨0, Nat.zero_le _, rfl, Below.refl _ _, World.ownsRow_nil _ _ _ _⟩
 case round =>
  obtain ⟨k, hk, rfl, hbl, ho⟩ := hrel
  have HBL := Lib.hid hbl
  have HO := Lib.hid ho
  have hsz := hbl.size
  have q2 := keeps hbl (by omega) HQ2.out
  have hwr : w.heap.size < wr.heap.size := by omega
  have hfl : (((p.edges.take k).filter (hitB p q l)).map Edge.dst).length ≤ k := by rw [List.length_map]; exact Nat.le_trans (List.length_filter_le _ _) (List.length_take_le _ _)
  clear hbl ho
  by_cases hlt : k < p.edges.length
  ·have hbr := HB0.out.trans (HBL.out.mono HB0.out.size)
   obtain ⟨be, oe, rfl, -, hbe, e1, e2, e3⟩ := (HER.out.below hbr).edge hlt
   have hek := HE.out k hlt
   obtain ⟨hll, hla⟩ := labAt_idx hek
   obtain ⟨bl, ol, rfl, -, hbl2, c1⟩ := (HLR.out.below hbr).one hll
   simp only [encS, List.getElem?_cons_zero] at c1
   rw [← hla] at c1
   have hl0 : ((p.edges[k].lab.toNat : Nat) : Int) = p.edges[k].lab := by have := hek.l0; omega
   have hl1 := hek.l1
   have hl2 := hek.l0
   obtain ⟨e, hee⟩ : ∃ e, e = p.edges[k] := ⟨_, rfl⟩
   obtain ⟨m, hm⟩ : ∃ m, m = p.edges[k].lab.toNat := ⟨_, rfl⟩
   rw [← hm] at c1 hl0 hll
   rw [← hee] at e1 e2 e3 c1 hl0 hl1 hl2
   have HEE := Lib.hid hee
   rw [← hl0] at e2
   have HBA : Hid (Below wB.heap.size wB (wr.alloc (.cells #[.int .i64 e.src, .int .i64 m, .int .i64 e.dst] 135))) := HBL.out.alloc hsz _
   have HSA : Hid (SliceK 1 encI lo2 (wr.alloc (.cells #[.int .i64 e.src, .int .i64 m, .int .i64 e.dst] 135)) sv [q]) := HS.out.below (hbr.alloc hbr.size _)
   have HOA : Hid ((wr.alloc (.cells #[.int .i64 e.src, .int .i64 m, .int .i64 e.dst] 135)).ownsRow wB.heap.size 2 1 u7 (((p.edges.take k).filter (hitB p q l)).map Edge.dst).length ((((p.edges.take k).filter (hitB p q l)).map Edge.dst).map (Value.int .i64))) := HO.out.alloc _
   have hml : (m : Int) < (p.labels.length : Int) := by omega
   clear hl0 hl1 hl2 hek hbr hla
   cases g1 : ((labAt p e).toList == l.toList)
   ·have HG : Hid (hitB p q l p.edges[k] = false) := by unfold Hid hitB; rw [← hee, g1, Bool.and_false]
    clear hee hm
    go_wp2_with fail
    go_roundw
    case rel => exact ⟨k + 1, by omega, by go_num, HBA.out, by rw [miss_take hlt HG.out]; exact HOA.out⟩
    case measure => simp [intOf]; omega
   ·cases g2 : (q == e.src)
    ·have HG : Hid (hitB p q l p.edges[k] = false) := by
      unfold Hid hitB
      rw [← hee]
      have : (e.src == q) = false := by rw [beq_eq_false_iff_ne] at g2 ⊢; exact fun h => g2 h.symm
      rw [this, Bool.false_and]
     have HG2 : Hid (([q].any fun y => y == e.src) = false) := by unfold Hid; simp [g2]
     clear hee hm g2
     go_wp2_with fail
     refine (Contains_ints lo2 _ _ [q] _ HSA.out).mono ?_
     rintro e' w' ⟨rfl, rfl⟩
     rw [HG2.out]
     go_wp2_with fail
     go_roundw
     case rel => exact ⟨k + 1, by omega, by go_num, HBA.out, by rw [miss_take hlt HG.out]; exact HOA.out⟩
     case measure => simp [intOf]; omega
    ·have HG : Hid (hitB p q l p.edges[k] = true) := by
      unfold Hid hitB
      rw [← hee]
      have : (e.src == q) = true := by rw [beq_iff_eq] at g2 ⊢; exact g2.symm
      rw [this, g1]; rfl
     have HG2 : Hid (([q].any fun y => y == e.src) = true) := by unfold Hid; simp [g2]
     have HD : Hid (p.edges[k].dst = e.dst) := by unfold Hid; rw [← hee]
     clear hee hm g2
     have hfz := hfl
     generalize hfs : ((p.edges.take k).filter (hitB p q l)).map Edge.dst = fs at *
     have HFS := Lib.hid hfs
     clear hfs
     go_wp2_with fail
     refine (Contains_ints lo2 _ _ [q] _ HSA.out).mono ?_
     rintro e' w' ⟨rfl, rfl⟩
     rw [HG2.out]
     go_wp2_with (at_builtin; refine wpList_append_own _ rfl _ _ 83 rfl wB.heap.size 2 i0 (.int .i64 0) 1 8 Tryz.underlying83 hi hz0 hz1 hz2 rfl (by decide) _ _ _ rfl (HOA.out.alloc _) ⟨wr.heap.size + 1, 0, none⟩ 1 1 [.int .i64 e.dst] rfl rfl ?c1 ?c2 ?c3 ?c4 ?c5 ?_)
     case c1 => have := cell_one_new (wr.alloc (.cells #[.int .i64 e.src, .int .i64 m, .int .i64 e.dst] 135)) (.int .i64 e.dst) 2; simpa using this
     case c2 => intro u hu; simp at hu; subst hu; rfl
     case c3 => simp [maxLen]; omega
     case c4 => omega
     case c5 => simp; omega
     intro v' w3 ho1 hg1 _
     have HO2 : Hid (w3.ownsRow wB.heap.size 2 1 v' (fs ++ [e.dst]).length ((fs ++ [e.dst]).map (Value.int .i64))) := by
      unfold Hid
      rw [List.length_append, List.map_append, hwz]
      exact ho1
     have HB2 : Hid (Below wB.heap.size wB w3) := (HBA.out.alloc (by simp; omega) _).grown hg1 (by simp; omega) (fun b e => (HO.out.lt b e).1)
     clear ho1 hg1
     go_wp2_with fail
     go_roundw
     case rel => exact ⟨k + 1, by omega, by go_num, HB2.out, by rw [hit_take hlt HG.out, HFS.out, HD.out]; exact HO2.out⟩
     case measure => simp [intOf]; omega
  ·obtain rfl : k = p.edges.length := by omega
   have HO2 : Hid (wr.ownsRow wB.heap.size 2 1 u7 (behind p q l).length ((behind p q l).map (Value.int .i64))) := by
    have := HO.out
    rw [List.take_length] at this
    exact this
   obtain ⟨a7, c7, rfl, -, -⟩ := owns_slice HO2.out
   clear HO HER HLR q2
   go_wp2_with fail
   refine (Sort_one _ _ _ _ hone).mono ?_
   rintro e' w' ⟨rfl, rfl⟩
   go_wp2_with fail
   refine (Compact_one _ _ _ _ hone).mono ?_
   rintro e' w' ⟨rfl, rfl⟩
   go_wp2_with fail
   go_ret
   exact ⟨_, rfl, HB0.out.trans (HBL.out.mono HB0.out.size), own_lower HO2.out HB0.out.size⟩

end Go.Proofs.YtpoleaekcjjedaaGreatDoor

namespace Go.Proofs.YtpoleaekcjjedaaGreatDoor
open Go Go.RowKit

set_option maxRecDepth 100000 in
set_option maxHeartbeats 1000000 in
theorem step_any (lo : Nat) (p : Lts) (lv ev : Value) (q : Int) (l : ByteArray) (w : World) (hvp : Valid p) (hsp : Single p) (hl : SliceK 1 encS lo w lv p.labels) (he : SliceK 3 encE lo w ev p.edges) :
  Calls Tryz.prog 190 #[.agg #[.int .i64 p.states, .int .i64 p.initial, lv, ev], .int .i64 q, .string l] w fun e w' => e = .returned (.int .i64 (goTo p q l)) ∧ Below w.heap.size w w' := by
 have HB0 := Lib.hid (box_below w #[.int .i64 p.states, .int .i64 p.initial, lv, ev] 31)
 by_cases hq : q < 0
 ·have HF : Hid (goTo p q l = -1) := by unfold Hid goTo; rw [if_pos hq]
  clear hvp hsp hl he
  go_enter Tryz.func190, Tryz.ntmps190
  go_wp2_with fail
  go_ret
  exact ⟨ret_int HF.out.symm, HB0.out⟩
 ·have hq' : ¬ q < 0 := hq
  have HF := Lib.hid (goTo_behind (p := p) (q := q) (by omega) l)
  have HB1 : Hid (Below w.heap.size w ((w.alloc (.cells #[.int .i64 p.states, .int .i64 p.initial, lv, ev] 31)).alloc (.cells #[.int .i64 q] 2))) := HB0.out.alloc HB0.out.size _
  have HS : Hid (SliceK 1 encI 0 ((w.alloc (.cells #[.int .i64 p.states, .int .i64 p.initial, lv, ev] 31)).alloc (.cells #[.int .i64 q] 2)) (.slice (some ⟨w.heap.size + 1, 0, none⟩) 1 1) [q]) := by
   have := World.ownsRow_lit (base := 0) (e := 2) (size := 1) (w.alloc (.cells #[.int .i64 p.states, .int .i64 p.initial, lv, ev] 31)) #[.int .i64 q] 1 (Nat.zero_le _) (by decide) (by simp)
   have e9 : (w.alloc (.cells #[.int .i64 p.states, .int .i64 p.initial, lv, ev] 31)).heap.size = w.heap.size + 1 := by simp
   rw [e9] at this
   exact SliceK.of_owns (e := 2) encI_len rfl (by rw [flat_encI]; simpa using this)
  have HC := Lib.hid (follow_one lo 0 p lv ev (.slice (some ⟨w.heap.size + 1, 0, none⟩) 1 1) q l _ hvp hsp (hl.below HB1.out) (he.below HB1.out) HS.out)
  clear hvp hsp hl he hq
  go_enter Tryz.func190, Tryz.ntmps190
  go_wp2_with fail
  refine Calls.mono HC.out ?_
  rintro e w1 ⟨v, rfl, hb1, ho1⟩
  have HB2 := Lib.hid (HB1.out.trans (hb1.mono HB1.out.size))
  clear hb1
  obtain ⟨av, cv, rfl, hc1, hc2⟩ := owns_slice ho1
  cases hbh : behind p q l with
  | nil =>
   have HG : Hid (goTo p q l = -1) := by unfold Hid; rw [HF.out, hbh]; rfl
   clear ho1 hc1
   simp only [List.length_nil]
   go_wp2_with fail
   go_ret
   exact ⟨ret_int HG.out.symm, HB2.out⟩
  | cons x r =>
   have HG : Hid (goTo p q l = x) := by unfold Hid; rw [HF.out, hbh]; rfl
   rw [hbh] at ho1
   have hsl : SliceK 1 encI 0 w1 (.slice av (x :: r).length cv) (x :: r) := SliceK.of_owns (e := 2) encI_len rfl (by rw [flat_encI]; exact own_lower ho1 (Nat.zero_le _))
   obtain ⟨a2, c2, e2, h2, h3, hrow⟩ := hsl
   simp only [Value.slice.injEq, true_and] at e2
   obtain ⟨rfl, rfl⟩ := e2
   obtain ⟨b1, o1, rfl, -, hbs, k1⟩ := hrow.one (i := 0) (by simp)
   simp only [encI, List.getElem?_cons_zero, List.getElem_cons_zero, Nat.add_zero] at k1
   have hlen : (0 : Int) < ((x :: r).length : Int) := by simp
   obtain ⟨n, hn⟩ : ∃ n, n = (x :: r).length := ⟨_, rfl⟩
   rw [← hn] at hlen
   simp only [← hn]
   clear ho1 hrow hc1 h2 hn hbh
   go_wp2_with fail
   go_ret
   exact ⟨ret_int HG.out.symm, HB2.out⟩

end Go.Proofs.YtpoleaekcjjedaaGreatDoor
