/-
  What the reference's functions on systems compute: whether they are valid and deterministic.
  What the reference's functions on systems compute: whether they are valid and deterministic.
  The pairs that can stay: the sweeps that both texts make over the pairs, in place. Plain definitions; no program in sight.
  What a call makes: lists of numbers, of edges; the true places of a list.
  What the implementation's functions on texts compute.
  What the implementation's isState and compareEdges compute.
  Plain laws: the order of texts; in a deterministic system at most one edge leaves a state with a label's text.
  Sets of states as ascending lists; what internal edges reach; the deterministic system of a system, found row for row. Plain definitions; no program in sight.
  Lists in ascending order: one list for each set; what is left of a sorted list when equal neighbours are made one.
-/
import Derived.Test.YtifoinannefcpaaGreatDoorA2
import Derived.IntWalk
import Derived.StillTailTactics
import Derived.Lib.SlicesCompact
import Derived.Lib.RowBridge
namespace Go.Proofs.YtifoinannefcpaaGreatDoor
open Go Go.RowKit

set_option maxHeartbeats 1000000 in
theorem l11Less_any (ba oa bb ob : Nat) (a b : Edge) (w : World) (ha : EdgeCells w ba oa a) (hb : EdgeCells w bb ob b) :
  Calls Tryz.prog 36 #[.pointer (some ⟨ba, oa, none⟩), .pointer (some ⟨bb, ob, none⟩)] w fun e w' => e = .returned (.bool (edgeLess a b)) ∧ Below w.heap.size w w' := by
 obtain ⟨a1, a2, a3⟩ := ha
 obtain ⟨b1, b2, b3⟩ := hb
 by_cases h1 : (a.src != b.src) = true
 ·have HF : Hid (edgeLess a b = decide (a.src < b.src)) := by unfold Hid edgeLess; rw [if_pos (by simpa using h1)]
  go_enter Tryz.func36, Tryz.ntmps36
  go_wp2
  go_quiet (fail)
  go_wp2
  go_quiet (fail)
  go_wp2
  go_ret
  exact ⟨ret_bool HF.out.symm, drews (drews (Below.refl _ _) _) _⟩
 ·have h1' : (a.src != b.src) = false := by simpa using h1
  clear h1
  by_cases h2 : (a.lab != b.lab) = true
  ·have HF : Hid (edgeLess a b = decide (a.lab < b.lab)) := by unfold Hid edgeLess; rw [if_neg (by simpa using h1'), if_pos (by simpa using h2)]
   go_enter Tryz.func36, Tryz.ntmps36
   go_wp2
   go_quiet (fail)
   go_wp2
   go_quiet (fail)
   go_wp2
   go_quiet (fail)
   go_wp2
   go_ret
   exact ⟨ret_bool HF.out.symm, drews (drews (drews (Below.refl _ _) _) _) _⟩
  ·have h2' : (a.lab != b.lab) = false := by simpa using h2
   have HF : Hid (edgeLess a b = decide (a.dst < b.dst)) := by unfold Hid edgeLess; rw [if_neg (by simpa using h1'), if_neg (by simpa using h2')]
   clear h2
   go_enter Tryz.func36, Tryz.ntmps36
   go_wp2
   go_quiet (fail)
   go_wp2
   go_quiet (fail)
   go_wp2
   go_quiet (fail)
   go_wp2
   go_ret
   exact ⟨ret_bool HF.out.symm, drews (drews (drews (Below.refl _ _) _) _) _⟩

set_option maxRecDepth 100000 in
set_option maxHeartbeats 1000000 in
theorem l11Names_any (v : Value) (lo : Nat) (ls : List ByteArray) (w : World) (hsh : Short ls) (hv : SliceK 1 encS lo w v ls) : Calls Tryz.prog 35 #[v] w (Decides (LabelsOk ls) w) := by
 have HSH := Lib.hid hsh
 obtain ⟨a, cap, rfl, hn, hcap, hr⟩ := hv
 clear hsh
 by_cases h0 : ls.length = 0
 ·have h0' : ((ls.length : Int) == 0) = true := by simp [h0]
  clear h0
  go_enter Tryz.func35, Tryz.ntmps35
  go_wp2_with fail
  go_ret
  refine ⟨false, rfl, ?_, Below.refl _ _⟩
  refine ⟨(fun h => by cases h), fun h => ?_⟩
  have := h.pos
  rw [beq_iff_eq] at h0'
  omega
 ·have h0' : ((ls.length : Int) == 0) = false := by rw [beq_eq_false_iff_ne]; omega
  have hpos : 0 < ls.length := by omega
  clear h0
  by_cases h1 : 12 < ls.length
  ·have h1' : decide (12 < (ls.length : Int)) = true := by simp; omega
   go_enter Tryz.func35, Tryz.ntmps35
   go_wp2_with fail
   go_ret
   refine ⟨false, rfl, ⟨(fun h => by cases h), fun h => ?_⟩, Below.refl _ _⟩
   have := h.most
   omega
  ·have h1' : decide (12 < (ls.length : Int)) = false := by simp; omega
   obtain ⟨b, off, rfl, -, hb, c0⟩ := hr.one hpos
   simp only [encS, List.getElem?_cons_zero, Nat.add_zero] at c0
   by_cases h2 : (ls[0].toList == [116, 97, 117]) = true
   ·have h2' : (!(ls[0].toList == [116, 97, 117])) = false := by rw [h2]; rfl
    have HT : Hid (ls[0].toList = tauB) := eq_of_beq h2
    go_enter Tryz.func35, Tryz.ntmps35
    go_wp2_with fail
    clear h2 h2' c0 h0' h1'
    go_loopw [3] (fun i wr => ∃ m : Nat, m + 1 ≤ ls.length ∧ i = .int .i64 ((m : Int) + 1) ∧ Below w.heap.size w wr ∧ (∀ q (h : q < ls.length), 1 ≤ q → q ≤ m → labelOk ls[q].data.toList = true ∧ ls[q].toList ≠ tauB) ∧ (∀ q (h : q + 1 < ls.length), 1 ≤ q → q + 1 ≤ m → strLess ls[q] ls[q + 1] = true)) (fun i _ => ls.length - (intOf i).toNat)
    case atStart => exact ⟨0, by omega, rfl, Below.refl _ _, fun _ _ _ _ => by omega, fun _ _ _ _ => by omega⟩
    case round =>
     obtain ⟨m, hm, rfl, hbl, hl1, hl2⟩ := hrel
     have HBL := Lib.hid hbl
     have HL1 := Lib.hid hl1
     have HL2 := Lib.hid hl2
     have hsz := hbl.size
     clear hl1 hl2
     by_cases hlt : m + 1 < ls.length
     ·have hle : (m : Int) + 1 < ls.length := by omega
      have hshk := HSH.out (m + 1) hlt
      obtain ⟨_, _, e1, -, hb1, c1⟩ := (hr.below hbl).one hlt
      simp only [Option.some.injEq, Addr.mk.injEq, and_true] at e1
      obtain ⟨rfl, rfl⟩ := e1
      obtain ⟨_, _, e1, -, -, c2⟩ := (hr.below hbl).one (show m < ls.length by omega)
      simp only [Option.some.injEq, Addr.mk.injEq, and_true] at e1
      obtain ⟨rfl, rfl⟩ := e1
      simp only [encS, List.getElem?_cons_zero] at c1 c2
      replace c1 := later_cell hb1 c1
      replace c2 := later_cell hb1 c2
      clear hbl hr
      have hcl := fun W => l01Label_any ls[m + 1] W hshk
      cases hA : labelOk ls[m + 1].data.toList
      ·rw [hA] at hcl
       have HA := Lib.hid hA
       have HCL := Lib.hid hcl
       clear hcl hA
       go_wp2
       refine wp_region_later (by kernel_rfl) (by kernel_rfl) ?_
       repeat (go_big_quiet_step ((go_at_call 62; exact later_call (HCL.out _))))
       refine wpQuiet_nil ?_
       intro _ hw9
       obtain ⟨nl, hw8⟩ := hw9
       subst hw8
       go_wp2
       go_ret
       refine ⟨false, rfl, ⟨(fun h => by cases h), fun h => ?_⟩, HBL.out.trans (nl.h.mono hsz)⟩
       have := h.label (m + 1) hlt (by omega)
       rw [HA.out] at this
       cases this
      ·rw [hA] at hcl
       have HA := Lib.hid hA
       have HCL := Lib.hid hcl
       clear hcl hA
       cases hB : (ls[m + 1].toList == [116, 97, 117])
       ·have HB : Hid (ls[m + 1].toList ≠ tauB) := fun e => by rw [e] at hB; simp [tauB] at hB
        by_cases hm1 : 1 ≤ m
        ·have g1 : decide (1 < (m : Int) + 1) = true := by simp; omega
         have g2 : (0 : Int) < m := by omega
         have g3 : 0 < m := by omega
         clear hm1
         cases hD : Op.bytesLess ls[m].toList ls[m + 1].toList
         ·go_wp2
          refine wp_region_later (by kernel_rfl) (by kernel_rfl) ?_
          repeat (go_big_quiet_step ((go_at_call 62; exact later_call (HCL.out _))))
          refine wpQuiet_nil ?_
          intro _ hw9
          obtain ⟨nl, hw8⟩ := hw9
          subst hw8
          go_wp2
          go_ret
          refine ⟨false, rfl, ⟨(fun h => by cases h), fun h => ?_⟩, HBL.out.trans (nl.h.mono hsz)⟩
          have := h.rise m hlt (by omega)
          unfold strLess at this
          rw [hD] at this
          cases this
         ·go_wp2
          refine wp_region_later (by kernel_rfl) (by kernel_rfl) ?_
          repeat (go_big_quiet_step ((go_at_call 62; exact later_call (HCL.out _))))
          refine wpQuiet_nil ?_
          intro _ hw9
          obtain ⟨nl, hw8⟩ := hw9
          subst hw8
          go_wp2
          go_roundw
          case rel => exact ⟨m + 1, by omega, by go_num, HBL.out.trans (nl.h.mono hsz), fun q h h1 h2 => by
            by_cases e : q = m + 1
            ·subst e; exact ⟨HA.out, HB.out⟩
            ·exact HL1.out q h h1 (by omega), fun q h h1 h2 => by
            by_cases e : q = m
            ·subst e; exact hD
            ·exact HL2.out q h h1 (by omega)⟩
          case measure => simp [intOf]; omega
        ·have g1 : decide (1 < (m : Int) + 1) = false := by simp; omega
         have hm0 : m ≤ 0 := by omega
         clear hm1
         go_wp2
         refine wp_region_later (by kernel_rfl) (by kernel_rfl) ?_
         repeat (go_big_quiet_step ((go_at_call 62; exact later_call (HCL.out _))))
         refine wpQuiet_nil ?_
         intro _ hw9
         obtain ⟨nl, hw8⟩ := hw9
         subst hw8
         go_wp2
         go_roundw
         case rel => exact ⟨m + 1, by omega, by go_num, HBL.out.trans (nl.h.mono hsz), fun q h h1 h2 => by
           obtain rfl : q = m + 1 := by omega
           exact ⟨HA.out, HB.out⟩, fun q h h1 h2 => by omega⟩
         case measure => simp [intOf]; omega
       ·have HB : Hid (ls[m + 1].toList = tauB) := eq_of_beq hB
        go_wp2
        refine wp_region_later (by kernel_rfl) (by kernel_rfl) ?_
        repeat (go_big_quiet_step ((go_at_call 62; exact later_call (HCL.out _))))
        refine wpQuiet_nil ?_
        intro _ hw9
        obtain ⟨nl, hw8⟩ := hw9
        subst hw8
        go_wp2
        go_ret
        refine ⟨false, rfl, ⟨(fun h => by cases h), fun h => ?_⟩, HBL.out.trans (nl.h.mono hsz)⟩
        exact absurd HB.out (h.other (m + 1) hlt (by omega))
     ·clear hr
      go_wp2
      go_ret
      refine ⟨true, rfl, ⟨fun _ => ?_, fun _ => rfl⟩, HBL.out⟩
      exact ⟨hpos, by omega, fun _ => HT.out, fun i h h1 => (HL1.out i h h1 (by omega)).1, fun i h h1 => (HL1.out i h h1 (by omega)).2, fun i h h1 => HL2.out i h h1 (by omega)⟩
   ·have h2' : (!(ls[0].toList == [116, 97, 117])) = true := by simpa using h2
    have h2'' : (ls[0].toList == [116, 97, 117]) = false := by simpa using h2
    clear h2
    go_enter Tryz.func35, Tryz.ntmps35
    go_wp2_with fail
    go_ret
    refine ⟨false, rfl, ⟨(fun h => by cases h), fun h => ?_⟩, Below.refl _ _⟩
    have := h.first hpos
    rw [this] at h2''
    simp [tauB] at h2''

end Go.Proofs.YtifoinannefcpaaGreatDoor

namespace Go.Proofs.YtifoinannefcpaaGreatDoor
open Go Go.RowKit

theorem inB_iff {n a b : Int} : inB n a b = true ↔ a ≤ n ∧ n ≤ b := by unfold inB; simp
theorem inB_not {n a b : Int} (h : inB n a b = false) : ¬ (a ≤ n ∧ n ≤ b) := fun h' => by rw [inB_iff.2 h'] at h; cases h

theorem edgeOk_iff (t : Lts) (e : Edge) : EdgeOk t e ↔ (inB e.src 0 (t.states - 1) = true ∧ inB e.dst 0 (t.states - 1) = true) ∧ inB e.lab 0 ((t.labels.length : Int) - 1) = true := by
 rw [inB_iff, inB_iff, inB_iff]
 exact ⟨fun ⟨a, b, c, d, e, f⟩ => by omega, fun h => ⟨by omega, by omega, by omega, by omega, by omega, by omega⟩⟩

set_option maxRecDepth 100000 in
set_option maxHeartbeats 4000000 in
theorem l11Is_any (p lo : Nat) (t : Lts) (w : World) (hsh : Short t.labels) (hp : LtsPtr lo w p t) : Calls Tryz.prog 15 #[.pointer (some ⟨p, 0, none⟩)] w (Decides (Valid t) w) := by
 obtain ⟨lv, ev, hpl, q0, q1, q2, q3, hl, he⟩ := hp
 have HL := Lib.hid hl
 obtain ⟨al, cl, rfl, hln, hlc, -⟩ := hl
 obtain ⟨ae, ce, rfl, hen, hec, hrow⟩ := he
 have HSH := Lib.hid hsh
 have r0 := later_cell hpl q0
 have r1 := later_cell hpl q1
 have r2 := later_cell hpl q2
 have r3 := later_cell hpl q3
 clear hsh
 cases hA : inB t.states 1 40
 ·clear q0 q1 q2 q3 hrow
  go_enter Tryz.func15, Tryz.ntmps15
  go_wp2
  refine wp_region_later (by kernel_rfl) (by kernel_rfl) ?_
  repeat (go_big_quiet_step ((go_at_call 34; exact later_same (l00In_any _ _ _ _))))
  refine wpQuiet_nil ?_
  intro _ hw9
  obtain ⟨nl, hw8⟩ := hw9
  subst hw8
  go_wp2
  go_ret
  exact ⟨false, rfl, ⟨(fun h => by cases h), fun h => absurd ⟨h.st0, h.st1⟩ (inB_not hA)⟩, nl.h⟩
 ·have hA1 : 1 ≤ t.states := (inB_iff.1 hA).1
  have hA2 : t.states ≤ 40 := (inB_iff.1 hA).2
  cases hB : inB t.initial 0 (t.states - 1)
  ·clear q0 q1 q2 q3 hrow
   go_enter Tryz.func15, Tryz.ntmps15
   go_wp2
   refine wp_region_later (by kernel_rfl) (by kernel_rfl) ?_
   repeat (go_big_quiet_step ((go_at_call 34; exact later_same (l00In_any _ _ _ _))))
   refine wpQuiet_nil ?_
   intro _ hw9
   obtain ⟨nl, hw8⟩ := hw9
   subst hw8
   go_wp2
   go_ret
   exact ⟨false, rfl, ⟨(fun h => by cases h), fun h => absurd ⟨h.in0, by have := h.in1; omega⟩ (inB_not hB)⟩, nl.h⟩
  ·have HB1 : Hid (0 ≤ t.initial ∧ t.initial < t.states) := by unfold Hid; have := inB_iff.1 hB; omega
   by_cases hC : LabelsOk t.labels
   ·have HC := Lib.hid hC
    clear hC
    by_cases hD : 300 < t.edges.length
    ·have hD' : decide (300 < (t.edges.length : Int)) = true := by simp; omega
     clear q0 q1 q2 q3 hrow
     go_enter Tryz.func15, Tryz.ntmps15
     go_wp2
     refine wp_region_later (by kernel_rfl) (by kernel_rfl) ?_
     repeat (go_big_quiet_step ((first | (go_at_call 34; exact later_same (l00In_any _ _ _ _)) | (go_at_call 35; exact later_call (Decides.yes (l11Names_any _ lo _ _ HSH.out (SliceK.below HL.out (Later.h _))) HC.out)))))
     refine wpQuiet_nil ?_
     intro _ hw9
     obtain ⟨nl, hw8⟩ := hw9
     subst hw8
     go_wp2
     go_ret
     exact ⟨false, rfl, ⟨(fun h => by cases h), fun h => by have := h.most; omega⟩, nl.h⟩
    ·have hD' : decide (300 < (t.edges.length : Int)) = false := by simp; omega
     have HQ0 := Lib.hid q0
     have HQ1 := Lib.hid q1
     have HQ2 := Lib.hid q2
     have HQ3 := Lib.hid q3
     clear q0 q1 q2 q3
     go_enter Tryz.func15, Tryz.ntmps15
     go_wp2
     refine wp_region_later (by kernel_rfl) (by kernel_rfl) ?_
     repeat (go_big_quiet_step ((first | (go_at_call 34; exact later_same (l00In_any _ _ _ _)) | (go_at_call 35; exact later_call (Decides.yes (l11Names_any _ lo _ _ HSH.out (SliceK.below HL.out (Later.h _))) HC.out)))))
     refine wpQuiet_nil ?_
     intro _ hw9
     obtain ⟨nl, hw8⟩ := hw9
     subst hw8
     have HN0 := Lib.hid nl.h
     clear r0 r1 r2 r3 hA hB hD'
     go_wp2
     go_loopw [3] (fun i wr => ∃ k : Nat, k ≤ t.edges.length ∧ i = .int .i64 k ∧ Below w.heap.size w wr ∧ (∀ q (h : q < t.edges.length), q < k → EdgeOk t t.edges[q]) ∧ (∀ q (h : q + 1 < t.edges.length), q + 1 < k → edgeLess t.edges[q] t.edges[q + 1] = true)) (fun i _ => t.edges.length - (intOf i).toNat)
     case atStart => exact ⟨0, Nat.zero_le _, rfl, HN0.out, fun _ _ h => by omega, fun _ _ h => by omega⟩
     case round =>
      obtain ⟨k, hk, rfl, hbl, hx1, hx2⟩ := hrel
      have HX1 := Lib.hid hx1
      have HX2 := Lib.hid hx2
      have HBL := Lib.hid hbl
      have hsz := hbl.size
      have q0 := keeps hbl hpl HQ0.out
      have q2 := keeps hbl hpl HQ2.out
      have q3 := keeps hbl hpl HQ3.out
      clear hx1 hx2 hbl
      by_cases hlt : k < t.edges.length
      ·rcases Nat.eq_zero_or_pos k with hk0 | hk0
       ·have hkz : k ≤ 0 := by omega
        clear hk0
        obtain ⟨be, oe, rfl, -, hbe, e1, e2, e3⟩ := (hrow.below HBL.out).edge hlt
        have HE := Lib.hid (show EdgeOk t t.edges[k] ↔ (inB t.edges[k].src 0 (t.states - 1) = true ∧ inB t.edges[k].dst 0 (t.states - 1) = true) ∧ inB t.edges[k].lab 0 ((t.labels.length : Int) - 1) = true from edgeOk_iff t _)
        have hee : ∃ e, e = t.edges[k] := ⟨_, rfl⟩
        obtain ⟨e, hee⟩ := hee
        rw [← hee] at e1 e2 e3 HE
        have HEE := Lib.hid hee
        clear hee
        have HO : Below wr.heap.size wr (wr.alloc (.cells #[.int .i64 e.src, .int .i64 e.lab, .int .i64 e.dst] 62)) := (Below.refl _ _).alloc (Nat.le_refl _) _
        have s0 := later_cell (w0 := wr.alloc (.cells #[.int .i64 e.src, .int .i64 e.lab, .int .i64 e.dst] 62)) (b := p) (by simp; omega) (keeps HO (by omega) q0)
        have s2 := later_cell (w0 := wr.alloc (.cells #[.int .i64 e.src, .int .i64 e.lab, .int .i64 e.dst] 62)) (b := p) (by simp; omega) (keeps HO (by omega) q2)
        have s3 := later_cell (w0 := wr.alloc (.cells #[.int .i64 e.src, .int .i64 e.lab, .int .i64 e.dst] 62)) (b := p) (by simp; omega) (keeps HO (by omega) q3)
        have t0 := later_cell (w0 := wr.alloc (.cells #[.int .i64 e.src, .int .i64 e.lab, .int .i64 e.dst] 62)) (b := wr.heap.size) (o := 0) (v := .int .i64 e.src) (by simp) (by simp)
        have t1 := later_cell (w0 := wr.alloc (.cells #[.int .i64 e.src, .int .i64 e.lab, .int .i64 e.dst] 62)) (b := wr.heap.size) (o := 1) (v := .int .i64 e.lab) (by simp) (by simp)
        have t2 := later_cell (w0 := wr.alloc (.cells #[.int .i64 e.src, .int .i64 e.lab, .int .i64 e.dst] 62)) (b := wr.heap.size) (o := 2) (v := .int .i64 e.dst) (by simp) (by simp)
        have HO2 := Lib.hid HO
        clear HO
        cases g1 : inB e.src 0 (t.states - 1)
        ·go_wp2
         refine wp_region_later (by kernel_rfl) (by kernel_rfl) ?_
         repeat (go_big_quiet_step ((go_at_call 34; exact later_same (l00In_any _ _ _ _))))
         refine wpQuiet_nil ?_
         intro _ hw9
         obtain ⟨nl, hw8⟩ := hw9
         subst hw8
         go_wp2
         go_ret
         refine ⟨false, rfl, ⟨(fun h => by cases h), fun h => ?_⟩, HBL.out.trans ((HO2.out.trans (nl.h.mono (by simp))).mono hsz)⟩
         have := h.edge k hlt
         rw [← HEE.out, HE.out] at this
         rw [g1] at this
         exact absurd this.1.1 (by simp)
        ·cases g2 : inB e.dst 0 (t.states - 1)
         ·go_wp2
          refine wp_region_later (by kernel_rfl) (by kernel_rfl) ?_
          repeat (go_big_quiet_step ((go_at_call 34; exact later_same (l00In_any _ _ _ _))))
          refine wpQuiet_nil ?_
          intro _ hw9
          obtain ⟨nl, hw8⟩ := hw9
          subst hw8
          go_wp2
          go_ret
          refine ⟨false, rfl, ⟨(fun h => by cases h), fun h => ?_⟩, HBL.out.trans ((HO2.out.trans (nl.h.mono (by simp))).mono hsz)⟩
          have := h.edge k hlt
          rw [← HEE.out, HE.out] at this
          rw [g2] at this
          exact absurd this.1.2 (by simp)
         ·cases g3 : inB e.lab 0 ((t.labels.length : Int) - 1)
          ·go_wp2
           refine wp_region_later (by kernel_rfl) (by kernel_rfl) ?_
           repeat (go_big_quiet_step ((go_at_call 34; exact later_same (l00In_any _ _ _ _))))
           refine wpQuiet_nil ?_
           intro _ hw9
           obtain ⟨nl, hw8⟩ := hw9
           subst hw8
           go_wp2
           go_ret
           refine ⟨false, rfl, ⟨(fun h => by cases h), fun h => ?_⟩, HBL.out.trans ((HO2.out.trans (nl.h.mono (by simp))).mono hsz)⟩
           have := h.edge k hlt
           rw [← HEE.out, HE.out] at this
           rw [g3] at this
           exact absurd this.2 (by simp)
          ·have HEK : Hid (EdgeOk t t.edges[k]) := by unfold Hid; rw [← HEE.out, HE.out]; exact ⟨⟨g1, g2⟩, g3⟩
           have hk0 : ¬ (0 : Int) < (k : Int) := by omega
           go_wp2
           refine wp_region_later (by kernel_rfl) (by kernel_rfl) ?_
           repeat (go_big_quiet_step ((go_at_call 34; exact later_same (l00In_any _ _ _ _))))
           refine wpQuiet_nil ?_
           intro _ hw9
           obtain ⟨nl, hw8⟩ := hw9
           subst hw8
           clear g1 g2 g3 s0 s2 t0 t1 t2
           have s3 := s3 nl
           go_wp2
           go_roundw
           case rel => exact ⟨k + 1, by omega, by go_num, HBL.out.trans ((HO2.out.trans (nl.h.mono (by simp))).mono hsz), fun q h h' => by
             obtain rfl : q = k := by omega
             exact HEK.out, fun q h h' => by omega⟩
           case measure => simp [intOf]; omega
       ·obtain ⟨m, rfl⟩ : ∃ m, k = m + 1 := ⟨k - 1, by omega⟩
        clear hk0
        obtain ⟨be, oe, rfl, -, hbe, e1, e2, e3⟩ := (hrow.below HBL.out).edge hlt
        have HROW := Lib.hid (hrow.below HBL.out)
        have HE := Lib.hid (show EdgeOk t t.edges[m + 1] ↔ (inB t.edges[m + 1].src 0 (t.states - 1) = true ∧ inB t.edges[m + 1].dst 0 (t.states - 1) = true) ∧ inB t.edges[m + 1].lab 0 ((t.labels.length : Int) - 1) = true from edgeOk_iff t _)
        have hee : ∃ e, e = t.edges[m + 1] := ⟨_, rfl⟩
        obtain ⟨e, hee⟩ := hee
        rw [← hee] at e1 e2 e3 HE
        have HEE := Lib.hid hee
        clear hee
        have HO : Below wr.heap.size wr (wr.alloc (.cells #[.int .i64 e.src, .int .i64 e.lab, .int .i64 e.dst] 62)) := (Below.refl _ _).alloc (Nat.le_refl _) _
        have s0 := later_cell (w0 := wr.alloc (.cells #[.int .i64 e.src, .int .i64 e.lab, .int .i64 e.dst] 62)) (b := p) (by simp; omega) (keeps HO (by omega) q0)
        have s2 := later_cell (w0 := wr.alloc (.cells #[.int .i64 e.src, .int .i64 e.lab, .int .i64 e.dst] 62)) (b := p) (by simp; omega) (keeps HO (by omega) q2)
        have s3 := later_cell (w0 := wr.alloc (.cells #[.int .i64 e.src, .int .i64 e.lab, .int .i64 e.dst] 62)) (b := p) (by simp; omega) (keeps HO (by omega) q3)
        have t0 := later_cell (w0 := wr.alloc (.cells #[.int .i64 e.src, .int .i64 e.lab, .int .i64 e.dst] 62)) (b := wr.heap.size) (o := 0) (v := .int .i64 e.src) (by simp) (by simp)
        have t1 := later_cell (w0 := wr.alloc (.cells #[.int .i64 e.src, .int .i64 e.lab, .int .i64 e.dst] 62)) (b := wr.heap.size) (o := 1) (v := .int .i64 e.lab) (by simp) (by simp)
        have t2 := later_cell (w0 := wr.alloc (.cells #[.int .i64 e.src, .int .i64 e.lab, .int .i64 e.dst] 62)) (b := wr.heap.size) (o := 2) (v := .int .i64 e.dst) (by simp) (by simp)
        have HO2 := Lib.hid HO
        clear HO
        cases g1 : inB e.src 0 (t.states - 1)
        ·go_wp2
         refine wp_region_later (by kernel_rfl) (by kernel_rfl) ?_
         repeat (go_big_quiet_step ((go_at_call 34; exact later_same (l00In_any _ _ _ _))))
         refine wpQuiet_nil ?_
         intro _ hw9
         obtain ⟨nl, hw8⟩ := hw9
         subst hw8
         go_wp2
         go_ret
         refine ⟨false, rfl, ⟨(fun h => by cases h), fun h => ?_⟩, HBL.out.trans ((HO2.out.trans (nl.h.mono (by simp))).mono hsz)⟩
         have := h.edge (m + 1) hlt
         rw [← HEE.out, HE.out] at this
         rw [g1] at this
         exact absurd this.1.1 (by simp)
        ·cases g2 : inB e.dst 0 (t.states - 1)
         ·go_wp2
          refine wp_region_later (by kernel_rfl) (by kernel_rfl) ?_
          repeat (go_big_quiet_step ((go_at_call 34; exact later_same (l00In_any _ _ _ _))))
          refine wpQuiet_nil ?_
          intro _ hw9
          obtain ⟨nl, hw8⟩ := hw9
          subst hw8
          go_wp2
          go_ret
          refine ⟨false, rfl, ⟨(fun h => by cases h), fun h => ?_⟩, HBL.out.trans ((HO2.out.trans (nl.h.mono (by simp))).mono hsz)⟩
          have := h.edge (m + 1) hlt
          rw [← HEE.out, HE.out] at this
          rw [g2] at this
          exact absurd this.1.2 (by simp)
         ·cases g3 : inB e.lab 0 ((t.labels.length : Int) - 1)
          ·go_wp2
           refine wp_region_later (by kernel_rfl) (by kernel_rfl) ?_
           repeat (go_big_quiet_step ((go_at_call 34; exact later_same (l00In_any _ _ _ _))))
           refine wpQuiet_nil ?_
           intro _ hw9
           obtain ⟨nl, hw8⟩ := hw9
           subst hw8
           go_wp2
           go_ret
           refine ⟨false, rfl, ⟨(fun h => by cases h), fun h => ?_⟩, HBL.out.trans ((HO2.out.trans (nl.h.mono (by simp))).mono hsz)⟩
           have := h.edge (m + 1) hlt
           rw [← HEE.out, HE.out] at this
           rw [g3] at this
           exact absurd this.2 (by simp)
          ·have HEK : Hid (EdgeOk t t.edges[m + 1]) := by unfold Hid; rw [← HEE.out, HE.out]; exact ⟨⟨g1, g2⟩, g3⟩
           go_wp2
           refine wp_region_later (by kernel_rfl) (by kernel_rfl) ?_
           repeat (go_big_quiet_step ((go_at_call 34; exact later_same (l00In_any _ _ _ _))))
           refine wpQuiet_nil ?_
           intro _ hw9
           obtain ⟨nl, hw8⟩ := hw9
           subst hw8
           have HC1 : Hid (EdgeCells nl.w wr.heap.size 0 e) := ⟨t0 nl, by simpa using t1 nl, by simpa using t2 nl⟩
           have s3 := s3 nl
           clear g1 g2 g3 s0 s2 t0 t1 t2
           have HB4 : Hid (Below wr.heap.size wr nl.w) := HO2.out.trans (nl.h.mono (by simp))
           obtain ⟨_, _, e9, -, -, d1, d2, d3⟩ := (HROW.out.below HB4.out).edge (show m < t.edges.length by omega)
           simp only [Option.some.injEq, Addr.mk.injEq, and_true] at e9
           obtain ⟨rfl, rfl⟩ := e9
           have HC2 : Hid (EdgeCells nl.w be (oe + m * 3) t.edges[m]) := ⟨d1, d2, d3⟩
           clear d1 d2 d3
           cases g4 : edgeLess t.edges[m] e
           ·have HG4 := Lib.hid g4
            clear g4
            go_wp2_with fail
            refine (l11Less_any _ _ _ _ _ _ _ HC2.out HC1.out).mono ?_
            rintro e' w3 ⟨rfl, hb3⟩
            rw [HG4.out]
            go_wp2_with fail
            go_ret
            refine ⟨false, rfl, ⟨(fun h => by cases h), fun h => ?_⟩, HBL.out.trans ((HB4.out.mono hsz).trans (hb3.mono (by have := HB4.out.size; omega)))⟩
            have := h.rise m (by omega)
            rw [← HEE.out, HG4.out] at this
            cases this
           ·have HG4 := Lib.hid g4
            clear g4
            go_wp2_with fail
            refine (l11Less_any _ _ _ _ _ _ _ HC2.out HC1.out).mono ?_
            rintro e' w3 ⟨rfl, hb3⟩
            rw [HG4.out]
            have HB5 : Hid (Below w.heap.size w w3) := HBL.out.trans ((HB4.out.mono hsz).trans (hb3.mono (by have := HB4.out.size; omega)))
            clear hb3
            go_wp2_with fail
            go_roundw
            case rel => exact ⟨m + 1 + 1, by omega, by go_num, HB5.out, fun q h h' => by
              by_cases e : q = m + 1
              ·subst e; exact HEK.out
              ·exact HX1.out q h (by omega), fun q h h' => by
              by_cases e : q = m
              ·subst e; rw [← HEE.out]; exact HG4.out
              ·exact HX2.out q h (by omega)⟩
            case measure => simp [intOf]; omega
      ·clear hrow
       go_wp2
       go_ret
       refine ⟨true, rfl, ⟨fun _ => ?_, fun _ => rfl⟩, HBL.out⟩
       exact ⟨hA1, hA2, HB1.out.1, HB1.out.2, HC.out, by omega, fun q h => HX1.out q h (by omega), fun q h => HX2.out q h (by omega)⟩
   ·clear q0 q1 q2 q3 hrow
    have HC := Lib.hid hC
    clear hC
    go_enter Tryz.func15, Tryz.ntmps15
    go_wp2
    refine wp_region_later (by kernel_rfl) (by kernel_rfl) ?_
    repeat (go_big_quiet_step ((first | (go_at_call 34; exact later_same (l00In_any _ _ _ _)) | (go_at_call 35; exact later_call (Decides.no (l11Names_any _ lo _ _ HSH.out (SliceK.below HL.out (Later.h _))) HC.out)))))
    refine wpQuiet_nil ?_
    intro _ hw9
    obtain ⟨nl, hw8⟩ := hw9
    subst hw8
    go_wp2
    go_ret
    exact ⟨false, rfl, ⟨(fun h => by cases h), fun h => absurd h.labels HC.out⟩, nl.h⟩

end Go.Proofs.YtifoinannefcpaaGreatDoor

namespace Go.Proofs.YtifoinannefcpaaGreatDoor
open Go Go.RowKit

/-- The text of an edge's label. -/
def labAt (t : Lts) (e : Edge) : ByteArray := t.labels.getD e.lab.toNat ByteArray.empty
def hitB (t : Lts) (q : Int) (l : ByteArray) (e : Edge) : Bool := (e.src == q) && ((labAt t e).toList == l.toList)
/-- The edges from a state. -/
def outOf (t : Lts) (k : Int) : List Edge := t.edges.filter fun e => e.src == k

end Go.Proofs.YtifoinannefcpaaGreatDoor

namespace Go.Proofs.YtifoinannefcpaaGreatDoor
open Go Go.RowKit

/-- A list of numbers of the call's own. -/
def MadeNums (xs : List Int) (w : World) (e : Ending) (w' : World) : Prop :=
 ∃ v, e = .returned v ∧ Below w.heap.size w w' ∧ w'.ownsRow w.heap.size 2 1 v xs.length (xs.map (Value.int .i64))

theorem info_edge2 : (Tryz.prog.info? 62).map (fun i => (i.zero, i.size, i.bytes)) = some (some (.agg #[.int .i64 0, .int .i64 0, .int .i64 0]), 3, 24) := by kernel_rfl

theorem getD_some {l : List Bool} {i : Nat} {b : Bool} (h : i < l.length) (hb : l.getD i false = b) : l[i]? = some b := by
 rw [List.getElem?_eq_getElem h]
 rw [List.getD_eq_getElem?_getD, List.getElem?_eq_getElem h] at hb
 exact congrArg some hb

theorem OwnIntss.lower {eo ei lo lo' : Nat} {w : World} {v : Value} {vs : List Value} {xss : List (List Int)} (h : OwnIntss eo ei lo w v vs xss) (hl : lo' ≤ lo) : OwnIntss eo ei lo' w v vs xss := by
 obtain ⟨h1, h2, h3, h4, h5⟩ := h
 exact ⟨h1, own_lower h2 hl, fun i a b => own_lower (h3 i a b) hl, h4, h5⟩

theorem OwnIntss.kept {eo ei lo : Nat} {w w' : World} {v : Value} {vs : List Value} {xss : List (List Int)} {row : Option Nat} (h : OwnIntss eo ei lo w v vs xss) (hg : w.grownBy w' row) (h0 : v.ownBlock = none ∨ v.ownBlock ≠ row)
  (hr : ∀ (i : Nat) (h : i < vs.length), vs[i].ownBlock = none ∨ vs[i].ownBlock ≠ row) : OwnIntss eo ei lo w' v vs xss := by
 obtain ⟨h1, h2, h3, h4, h5⟩ := h
 exact ⟨h1, h2.kept hg h0, fun i hi hi' => (h3 i hi hi').kept hg (hr i hi), h4, h5⟩

end Go.Proofs.YtifoinannefcpaaGreatDoor

namespace Go.Proofs.YtifoinannefcpaaGreatDoor
open Go Go.RowKit

theorem isDigit_any (c : UInt8) (w : World) : Calls Tryz.prog 151 #[.int .u8 (c.toNat : Int)] w fun e w' => e = .returned (.bool (digit c)) ∧ w = w' := by
 by_cases h : 48 ≤ (c.toNat : Int)
 ·have hf : Hid (digit c = decide ((c.toNat : Int) ≤ 57)) := by unfold Hid digit; rw [decide_eq_true h, Bool.true_and]
  go_enter Tryz.func151, Tryz.ntmps151
  go_wp2
  go_ret
  exact ⟨ret_bool hf.out.symm, rfl⟩
 ·have hf : Hid (digit c = false) := by unfold Hid digit; rw [decide_eq_false h, Bool.false_and]
  go_enter Tryz.func151, Tryz.ntmps151
  go_wp2
  go_ret
  exact ⟨ret_bool hf.out.symm, rfl⟩

theorem isName_all {s : ByteArray} (h0 : 0 < s.size) (hb : small s[0] = true) (ha : ∀ j (h : j < s.size), okc s[j] = true) : isName s.data.toList = decide ((s.size : Int) ≤ 10) := by
 by_cases h : 10 < s.size
 ·rw [isName_long (by rw [len_data]; exact h), decide_eq_false (by omega)]
 ·rw [isName_good h0 h hb ha, decide_eq_true (by omega)]

set_option maxHeartbeats 1000000 in
theorem IsName_any (s : ByteArray) (w : World) (hs : s.size ≤ 1073741824) : Calls Tryz.prog 131 #[.string s] w fun e w' => e = .returned (.bool (isName s.data.toList)) ∧ w = w' := by
 go_enter Tryz.func131, Tryz.ntmps131
 go_wp2_with fail
 go_loop [7] (fun i => ∃ k : Nat, k ≤ s.size ∧ i = .int .i64 k ∧ (∀ j (h : j < s.size), j < k → okc s[j] = true) ∧ ∀ h : 0 < s.size, 0 < k → small s[0] = true) (fun i => s.size - (intOf i).toNat)
 case atStart => exact ⟨0, Nat.zero_le _, rfl, (fun _ _ h => by omega), fun _ h => by omega⟩
 case round =>
  obtain ⟨k, hk, rfl, ha, hs0⟩ := hrel
  have HA := Lib.hid ha
  have HS := Lib.hid hs0
  clear ha hs0
  by_cases hlt : k < s.size
  ·have hc : ∃ b, small s[k] = b := ⟨_, rfl⟩
   obtain ⟨b, hb⟩ := hc
   have HB := Lib.hid hb
   unfold small at hb
   have hcs : b = true → (97 ≤ (s[k].toNat : Int) ∧ (s[k].toNat : Int) ≤ 122) := by rintro rfl; simpa using hb
   cases b
   ·clear hcs
    by_cases h1 : 97 ≤ (s[k].toNat : Int)
    ·have h2 : ¬ (s[k].toNat : Int) ≤ 122 := by simpa [h1] using hb
     clear hb
     by_cases hk0 : k = 0
     ·subst hk0
      have HF : Hid (isName s.data.toList = false) := isName_head hlt HB.out
      go_wp2_with fail
      go_ret
      exact ⟨ret_bool HF.out.symm, rfl⟩
     ·have hk1 : ((k : Int) == 0) = false := by rw [beq_eq_false_iff_ne]; omega
      obtain ⟨d, hd⟩ : ∃ b, digit s[k] = b := ⟨_, rfl⟩
      have HD := Lib.hid hd
      clear hd
      go_wp2_with fail
      refine (isDigit_any _ _).mono ?_
      rintro e w' ⟨rfl, rfl⟩
      rw [HD.out]
      cases d
      ·go_wp2_with fail
       go_ret
       exact ⟨ret_bool (isName_bad hlt HB.out HD.out).symm, rfl⟩
      ·go_wp2_with fail
       go_round
       case rel => exact ⟨k + 1, by omega, by go_num, (fun j h hj => by
        by_cases e : j = k
        ·subst e; simp [okc, HD.out]
        ·exact HA.out j h (by omega)), fun h _ => HS.out h (by omega)⟩
       case measure => simp [intOf]; omega
    ·clear hb
     by_cases hk0 : k = 0
     ·subst hk0
      have HF : Hid (isName s.data.toList = false) := isName_head hlt HB.out
      go_wp2_with fail
      go_ret
      exact ⟨ret_bool HF.out.symm, rfl⟩
     ·have hk1 : ((k : Int) == 0) = false := by rw [beq_eq_false_iff_ne]; omega
      obtain ⟨d, hd⟩ : ∃ b, digit s[k] = b := ⟨_, rfl⟩
      have HD := Lib.hid hd
      clear hd
      go_wp2_with fail
      refine (isDigit_any _ _).mono ?_
      rintro e w' ⟨rfl, rfl⟩
      rw [HD.out]
      cases d
      ·go_wp2_with fail
       go_ret
       exact ⟨ret_bool (isName_bad hlt HB.out HD.out).symm, rfl⟩
      ·go_wp2_with fail
       go_round
       case rel => exact ⟨k + 1, by omega, by go_num, (fun j h hj => by
        by_cases e : j = k
        ·subst e; simp [okc, HD.out]
        ·exact HA.out j h (by omega)), fun h _ => HS.out h (by omega)⟩
       case measure => simp [intOf]; omega
   ·obtain ⟨h1, h2⟩ := hcs rfl
    clear hcs hb
    go_wp2_with fail
    go_round
    case rel => exact ⟨k + 1, by omega, by go_num, (fun j h hj => by
     by_cases e : j = k
     ·subst e; simp [okc, HB.out]
     ·exact HA.out j h (by omega)), fun h _ => by
      by_cases e : k = 0
      ·subst e; exact HB.out
      ·exact HS.out h (by omega)⟩
    case measure => simp [intOf]; omega
  ·obtain rfl : k = s.size := by omega
   clear hlt hk
   by_cases h0 : 0 < s.size
   ·have HF : Hid (isName s.data.toList = decide ((s.size : Int) ≤ 10)) := isName_all h0 (HS.out h0 h0) (fun j h => HA.out j h h)
    have h01 : 1 ≤ (s.size : Int) := by omega
    go_wp2_with fail
    go_ret
    exact ⟨ret_bool HF.out.symm, rfl⟩
   ·have HF : Hid (isName s.data.toList = false) := by
     have : s.data.toList = [] := List.eq_nil_of_length_eq_zero (by rw [len_data]; omega)
     unfold Hid; rw [this]; rfl
    have h01 : ¬ 1 ≤ (s.size : Int) := by omega
    go_wp2_with fail
    go_ret
    exact ⟨ret_bool HF.out.symm, rfl⟩

theorem within_any (n lo hi : Int) (w : World) : Calls Tryz.prog 39 #[.int .i64 n, .int .i64 lo, .int .i64 hi] w fun e w' => e = .returned (.bool (decide (lo ≤ n) && decide (n ≤ hi))) ∧ w = w' := by
 by_cases h : lo ≤ n
 ·have hf : Hid ((decide (lo ≤ n) && decide (n ≤ hi)) = decide (n ≤ hi)) := by unfold Hid; rw [decide_eq_true h, Bool.true_and]
  go_enter Tryz.func39, Tryz.ntmps39
  go_wp2
  go_ret
  exact ⟨ret_bool hf.out.symm, rfl⟩
 ·have hf : Hid ((decide (lo ≤ n) && decide (n ≤ hi)) = false) := by unfold Hid; rw [decide_eq_false h, Bool.false_and]
  go_enter Tryz.func39, Tryz.ntmps39
  go_wp2
  go_ret
  exact ⟨ret_bool hf.out.symm, rfl⟩

theorem index_any (n m : Int) (w : World) (h1 : -9223372036854775807 ≤ m) (h2 : m ≤ 9223372036854775807) : Calls Tryz.prog 42 #[.int .i64 n, .int .i64 m] w fun e w' => e = .returned (.bool (decide (0 ≤ n) && decide (n ≤ m - 1))) ∧ w = w' := by
 go_enter Tryz.func42, Tryz.ntmps42
 go_wp2_with fail
 refine (within_any _ _ _ _).mono ?_
 rintro e w' ⟨rfl, rfl⟩
 go_wp2_with fail
 go_ret
 exact ⟨rfl, rfl⟩

theorem isValue_any (n : Int) (w : World) : Calls Tryz.prog 134 #[.int .i64 n] w fun e w' => e = .returned (.bool (decide (0 ≤ n) && decide (n ≤ 63))) ∧ w = w' := by
 go_enter Tryz.func134, Tryz.ntmps134
 go_wp2_with fail
 refine (within_any _ _ _ _).mono ?_
 rintro e w' ⟨rfl, rfl⟩
 go_wp2_with fail
 go_ret
 exact ⟨rfl, rfl⟩

theorem IsAction_any (s : ByteArray) (w : World) (hs : s.size ≤ 1073741824) : Calls Tryz.prog 104 #[.string s] w fun e w' => e = .returned (.bool (isAction s.data.toList)) ∧ w = w' := by
 have hc : ∃ b, isName s.data.toList = b := ⟨_, rfl⟩
 obtain ⟨b, hb⟩ := hc
 cases b
 ·have HF : Hid (isAction s.data.toList = false) := by unfold Hid isAction; rw [hb]; rfl
  have HB := Lib.hid hb
  clear hb
  go_enter Tryz.func104, Tryz.ntmps104
  go_wp2_with fail
  refine (IsName_any _ _ hs).mono ?_
  rintro e w' ⟨rfl, rfl⟩
  rw [HB.out]
  go_wp2_with fail
  go_ret
  exact ⟨ret_bool HF.out.symm, rfl⟩
 ·have HF : Hid (isAction s.data.toList = !(s.toList == tauL)) := by unfold Hid isAction; rw [hb, Lib.toList_data]; rfl
  have HB := Lib.hid hb
  clear hb
  go_enter Tryz.func104, Tryz.ntmps104
  go_wp2_with fail
  refine (IsName_any _ _ hs).mono ?_
  rintro e w' ⟨rfl, rfl⟩
  rw [HB.out]
  go_wp2_with fail
  go_ret
  exact ⟨ret_bool HF.out.symm, rfl⟩

end Go.Proofs.YtifoinannefcpaaGreatDoor

namespace Go.Proofs.YtifoinannefcpaaGreatDoor
open Go Go.RowKit

theorem isState_any (lv ev : Value) (s i k : Int) (w : World) (h1 : 1 ≤ s) (h2 : s ≤ 40) :
  Calls Tryz.prog 40 #[.agg #[.int .i64 s, .int .i64 i, lv, ev], .int .i64 k] w fun e w' => e = .returned (.bool (inB k 0 (s - 1))) ∧ Below w.heap.size w w' := by
 have HB : Hid (Below w.heap.size w (w.alloc (.cells #[.int .i64 s, .int .i64 i, lv, ev] 27))) := (Below.refl _ _).alloc (Nat.le_refl _) _
 go_enter Tryz.func40, Tryz.ntmps40
 go_wp2_with fail
 refine (within_any _ _ _ _).mono ?_
 rintro e w' ⟨rfl, rfl⟩
 go_wp2_with fail
 go_ret
 exact ⟨rfl, HB.out⟩

def cmpI (a b : Int) : Int := if a < b then -1 else if b < a then 1 else 0

theorem isNaN_any (a : Int) (w : World) : Calls Tryz.prog 82 #[.int .i64 a] w fun e w' => e = .returned (.bool false) ∧ w = w' := by
 go_enter Tryz.func82, Tryz.ntmps82
 go_wp2
 go_ret
 exact ⟨ret_bool (by simp), rfl⟩

theorem Compare_any (a b : Int) (w : World) : Calls Tryz.prog 65 #[.int .i64 a, .int .i64 b] w fun e w' => e = .returned (.int .i64 (cmpI a b)) ∧ w = w' := by
 by_cases h1 : a < b
 ·have HF : Hid (cmpI a b = -1) := by unfold Hid cmpI; rw [if_pos h1]
  go_enter Tryz.func65, Tryz.ntmps65
  go_wp2_with fail
  refine (isNaN_any _ _).mono ?_
  rintro e w' ⟨rfl, rfl⟩
  go_wp2_with fail
  refine (isNaN_any _ _).mono ?_
  rintro e w' ⟨rfl, rfl⟩
  go_wp2_with fail
  go_ret
  exact ⟨ret_int HF.out.symm, rfl⟩
 ·by_cases h2 : b < a
  ·have HF : Hid (cmpI a b = 1) := by unfold Hid cmpI; rw [if_neg h1, if_pos h2]
   go_enter Tryz.func65, Tryz.ntmps65
   go_wp2_with fail
   refine (isNaN_any _ _).mono ?_
   rintro e w' ⟨rfl, rfl⟩
   go_wp2_with fail
   refine (isNaN_any _ _).mono ?_
   rintro e w' ⟨rfl, rfl⟩
   go_wp2_with fail
   go_ret
   exact ⟨ret_int HF.out.symm, rfl⟩
  ·have HF : Hid (cmpI a b = 0) := by unfold Hid cmpI; rw [if_neg h1, if_neg h2]
   go_enter Tryz.func65, Tryz.ntmps65
   go_wp2_with fail
   refine (isNaN_any _ _).mono ?_
   rintro e w' ⟨rfl, rfl⟩
   go_wp2_with fail
   refine (isNaN_any _ _).mono ?_
   rintro e w' ⟨rfl, rfl⟩
   go_wp2_with fail
   go_ret
   exact ⟨ret_int HF.out.symm, rfl⟩

def orI (xs : List Int) : Int := (xs.find? fun x => x != 0).getD 0

theorem orI_hit {xs : List Int} {k : Nat} (h : k < xs.length) (hb : ∀ j (h : j < xs.length), j < k → xs[j] = 0) (hn : xs[k] ≠ 0) : orI xs = xs[k] := by
 unfold orI
 have : xs.find? (fun x => x != 0) = some xs[k] := by
  rw [List.find?_eq_some_iff_getElem]
  exact ⟨by simpa using hn, k, h, rfl, fun j hj => by simpa using hb j (by omega) hj⟩
 rw [this]; rfl
theorem orI_none {xs : List Int} (hb : ∀ j (h : j < xs.length), xs[j] = 0) : orI xs = 0 := by
 unfold orI
 have : xs.find? (fun x => x != 0) = none := by
  rw [List.find?_eq_none]
  intro x hx
  obtain ⟨j, hj, rfl⟩ := List.mem_iff_getElem.1 hx
  simpa using hb j hj
 rw [this]; rfl

theorem Or_any (lo : Nat) (v : Value) (xs : List Int) (w : World) (hv : SliceK 1 encI lo w v xs) :
  Calls Tryz.prog 64 #[v] w fun e w' => e = .returned (.int .i64 (orI xs)) ∧ w = w' := by
 obtain ⟨a, c, rfl, hcn, hcc, hrow⟩ := hv
 go_enter Tryz.func64, Tryz.ntmps64
 go_wp2_with fail
 go_loop [8] (fun i => ∃ k : Nat, k ≤ xs.length ∧ i = .int .i64 k ∧ ∀ j (h : j < xs.length), j < k → xs[j] = 0) (fun i => xs.length - (intOf i).toNat)
 case atStart => exact ⟨0, Nat.zero_le _, rfl, fun _ _ h => by omega⟩
 case round =>
  obtain ⟨k, hk, rfl, ha⟩ := hrel
  have HA := Lib.hid ha
  clear ha
  by_cases hlt : k < xs.length
  ·obtain ⟨b1, o1, rfl, -, hbs, c1⟩ := hrow.one hlt
   simp only [encI, List.getElem?_cons_zero] at c1
   clear hrow
   obtain ⟨x, hx⟩ : ∃ x, x = xs[k] := ⟨_, rfl⟩
   rw [← hx] at c1
   have HX := Lib.hid hx
   clear hx
   cases h0 : (x != 0)
   ·have h0' : x = 0 := by simpa using h0
    go_wp2_with fail
    go_round
    case rel => exact ⟨k + 1, by omega, by go_num, fun j h hj => by
     by_cases e : j = k
     ·subst e; rw [← HX.out]; exact h0'
     ·exact HA.out j h (by omega)⟩
    case measure => simp [intOf]; omega
   ·have hf : orI xs = x := by rw [HX.out]; exact orI_hit hlt HA.out (by rw [← HX.out]; simpa using h0)
    have HF := Lib.hid hf
    clear hf
    go_wp2_with fail
    go_ret
    exact ⟨ret_int HF.out.symm, rfl⟩
  ·clear hrow
   go_wp2_with fail
   go_ret
   exact ⟨ret_int (orI_none fun j h => HA.out j h (by omega)).symm, rfl⟩

def cmpE (a b : Edge) : Int := orI [cmpI a.src b.src, cmpI a.lab b.lab, cmpI a.dst b.dst]
theorem cmpE_less (a b : Edge) : decide (0 ≤ cmpE a b) = !edgeLess a b := by
 unfold cmpE orI edgeLess cmpI
 by_cases h1 : a.src < b.src
 ·have : a.src ≠ b.src := by omega
  simp [h1, this]
 ·by_cases h2 : b.src < a.src
  ·have : a.src ≠ b.src := by omega
   simp [h1, h2, this]
  ·have e : a.src = b.src := by omega
   by_cases h3 : a.lab < b.lab
   ·have : a.lab ≠ b.lab := by omega
    simp [h3, this, e]
   ·by_cases h4 : b.lab < a.lab
    ·have : a.lab ≠ b.lab := by omega
     simp [h3, h4, this, e]
    ·have e2 : a.lab = b.lab := by omega
     by_cases h5 : a.dst < b.dst
     ·simp [h5, e, e2]
     ·by_cases h6 : b.dst < a.dst
      ·simp [h5, h6, e, e2]
      ·simp [h5, h6, e, e2]

theorem still_same {P : Program} {f : FuncId} {args : Array Value} {w : World} {v : Value} (h : Calls P f args w fun e w' => e = .returned v ∧ w = w') : Calls P f args w fun e w' => e = .returned v ∧ w' = w :=
 h.mono fun _ _ ⟨he, hw⟩ => ⟨he, hw.symm⟩

set_option maxRecDepth 100000 in
theorem compareEdges_any (a b : Edge) (w : World) : Calls Tryz.prog 43 #[.agg #[.int .i64 a.src, .int .i64 a.lab, .int .i64 a.dst], .agg #[.int .i64 b.src, .int .i64 b.lab, .int .i64 b.dst]] w fun e w' => e = .returned (.int .i64 (cmpE a b)) ∧ Below w.heap.size w w' := by
 obtain ⟨W, hW⟩ : ∃ W, W = (w.alloc (.cells #[.int .i64 a.src, .int .i64 a.lab, .int .i64 a.dst] 62)).alloc (.cells #[.int .i64 b.src, .int .i64 b.lab, .int .i64 b.dst] 62) := ⟨_, rfl⟩
 have HB : Hid (Below w.heap.size w W) := by
  unfold Hid
  rw [hW]
  exact ((Below.refl _ _).alloc (Nat.le_refl _) _).alloc (by simp) _
 have a0 : W.cell? ⟨w.heap.size, 0, none⟩ = some (.int .i64 a.src) := by rw [hW]; simp
 have a1 : W.cell? ⟨w.heap.size, 1, none⟩ = some (.int .i64 a.lab) := by rw [hW]; simp
 have a2 : W.cell? ⟨w.heap.size, 2, none⟩ = some (.int .i64 a.dst) := by rw [hW]; simp
 have b0 : W.cell? ⟨w.heap.size + 1, 0, none⟩ = some (.int .i64 b.src) := by rw [hW]; simp
 have b1 : W.cell? ⟨w.heap.size + 1, 1, none⟩ = some (.int .i64 b.lab) := by rw [hW]; simp
 have b2 : W.cell? ⟨w.heap.size + 1, 2, none⟩ = some (.int .i64 b.dst) := by rw [hW]; simp
 go_enter Tryz.func43, Tryz.ntmps43
 go_wp2
 rw [← hW]
 clear hW
 go_still_tail 15, (by kernel_rfl)
 still_call (still_same (Compare_any _ _ _))
 repeat still_step
 still_call (still_same (Compare_any _ _ _))
 repeat still_step
 still_call (still_same (Compare_any _ _ _))
 repeat still_step
 refine wpStill_nil ?_
 change wpList _ _ _ _ _ W.drew
 obtain ⟨W2, hW2⟩ : ∃ W2, W2 = W.drew := ⟨_, rfl⟩
 rw [← hW2]
 have HB2 : Hid (Below w.heap.size w W2) := by
  unfold Hid
  rw [hW2]
  exact HB.out.drew
 clear hW2 a0 a1 a2 b0 b1 b2
 have HS : Hid (SliceK 1 encI 0 (W2.alloc (.cells #[.int .i64 (cmpI a.src b.src), .int .i64 (cmpI a.lab b.lab), .int .i64 (cmpI a.dst b.dst)] 3)) (.slice (some ⟨W2.heap.size, 0, none⟩) 3 3) [cmpI a.src b.src, cmpI a.lab b.lab, cmpI a.dst b.dst]) := by
  have := World.ownsRow_lit (base := 0) (e := 3) (size := 1) W2 #[.int .i64 (cmpI a.src b.src), .int .i64 (cmpI a.lab b.lab), .int .i64 (cmpI a.dst b.dst)] 3 (Nat.zero_le _) (by decide) (by simp)
  exact SliceK.of_owns (e := 3) encI_len rfl (by rw [flat_encI]; simpa using this)
 have HB3 : Hid (Below w.heap.size w (W2.alloc (.cells #[.int .i64 (cmpI a.src b.src), .int .i64 (cmpI a.lab b.lab), .int .i64 (cmpI a.dst b.dst)] 3))) := HB2.out.alloc HB2.out.size _
 go_wp2_with fail
 refine (Or_any 0 _ _ _ HS.out).mono ?_
 rintro e w' ⟨rfl, rfl⟩
 go_wp2_with fail
 go_ret
 exact ⟨rfl, HB3.out⟩

end Go.Proofs.YtifoinannefcpaaGreatDoor

namespace Go.Proofs.YtifoinannefcpaaGreatDoor
open Go Go.RowKit

theorem less_lt : ∀ (x y : List UInt8), Op.bytesLess x y = decide (x < y)
 | [], [] => by simp [Op.bytesLess]
 | _ :: _, [] => by simp [Op.bytesLess]
 | [], _ :: _ => by simp [Op.bytesLess]
 | a :: x, b :: y => by
  rw [Op.bytesLess, less_lt x y]
  simp only [List.cons_lt_cons_iff]
  by_cases h1 : a < b <;> by_cases h2 : a = b <;> by_cases h3 : x < y <;> simp [h1, h2, h3]

theorem less_leq (x y : List UInt8) : (Op.bytesLess x y || x == y) = !Op.bytesLess y x := by
 rw [less_lt, less_lt]
 by_cases h : y < x
 ·have h1 : ¬ x < y := fun h' => List.lt_irrefl x (List.lt_trans h' h)
  have h2 : x ≠ y := fun e => List.lt_irrefl x (by rw [e] at h ⊢; exact h)
  simp [h, h1, h2]
 ·by_cases h1 : x < y
  ·simp [h, h1]
  ·have e : x = y := List.le_antisymm (List.not_lt.1 h) (List.not_lt.1 h1)
   simp [e]

/-- The states behind the edges that a label's text takes. -/
def behind (p : Lts) (q : Int) (l : ByteArray) : List Int := (p.edges.filter (hitB p q l)).map Edge.dst
end Go.Proofs.YtifoinannefcpaaGreatDoor

namespace Go.Proofs.YtifoinannefcpaaGreatDoor
open Go Go.RowKit

/-- A list that has just the members P, ascending. -/
structure IsSet (P : Int → Prop) (l : List Int) : Prop where
 mem : ∀ x, x ∈ l ↔ P x
 asc : l.Pairwise (· < ·)

theorem asc_unique : ∀ (l m : List Int), l.Pairwise (· < ·) → m.Pairwise (· < ·) → (∀ x, x ∈ l ↔ x ∈ m) → l = m
 | [], [], _, _, _ => rfl
 | [], b :: m, _, _, h => by have := (h b).2 (by simp); simp at this
 | a :: l, [], _, _, h => by have := (h a).1 (by simp); simp at this
 | a :: l, b :: m, hl, hm, h => by
  rw [List.pairwise_cons] at hl hm
  have e : a = b := by
   have h1 := (h a).1 (by simp)
   have h2 := (h b).2 (by simp)
   rw [List.mem_cons] at h1 h2
   rcases h1 with h1 | h1
   ·exact h1
   ·rcases h2 with h2 | h2
    ·exact h2.symm
    ·have := hm.1 a h1
     have := hl.1 b h2
     omega
  subst e
  rw [asc_unique l m hl.2 hm.2 fun x => ?_]
  constructor
  ·intro hx
   have h1 := (h x).1 (by simp [hx])
   rw [List.mem_cons] at h1
   rcases h1 with h1 | h1
   ·have := hl.1 x hx; omega
   ·exact h1
  ·intro hx
   have h1 := (h x).2 (by simp [hx])
   rw [List.mem_cons] at h1
   rcases h1 with h1 | h1
   ·have := hm.1 x hx; omega
   ·exact h1
theorem IsSet.unique {P : Int → Prop} {l m : List Int} (hl : IsSet P l) (hm : IsSet P m) : l = m :=
 asc_unique l m hl.asc hm.asc fun x => (hl.mem x).trans (hm.mem x).symm
theorem IsSet.congr {P Q : Int → Prop} {l : List Int} (hl : IsSet P l) (h : ∀ x, P x ↔ Q x) : IsSet Q l := ⟨fun x => (hl.mem x).trans (h x), hl.asc⟩

noncomputable section
end

noncomputable section
end

end Go.Proofs.YtifoinannefcpaaGreatDoor

namespace Go.Proofs.YtifoinannefcpaaGreatDoor
open Go Go.RowKit

theorem compact_upto {α : Type} [Inhabited α] [DecidableEq α] (lt : α → α → Prop) (ht : ∀ a b c, lt a b → lt b c → lt a c) (d : Array α) (hs : ∀ i j, i < j → j < d.size → d[i]! = d[j]! ∨ lt d[i]! d[j]!) :
  ∀ m, m ≤ d.size → (Lib.compactUpTo d m).Pairwise lt ∧ ∀ x, x ∈ Lib.compactUpTo d m ↔ ∃ j, j < m ∧ d[j]! = x
 | 0, _ => ⟨by simp [Lib.compactUpTo], fun x => by simp [Lib.compactUpTo]⟩
 | m + 1, hm => by
  obtain ⟨h1, h2⟩ := compact_upto lt ht d hs m (by omega)
  rw [Lib.compactUpTo_succ]
  by_cases hk : Lib.keeps d m = true
  ·rw [if_pos hk]
   refine ⟨?_, fun x => ?_⟩
   ·rw [List.pairwise_append]
    refine ⟨h1, by simp, fun a ha b hb => ?_⟩
    rw [List.mem_singleton] at hb
    subst hb
    obtain ⟨j, hj, rfl⟩ := (h2 a).1 ha
    unfold Lib.keeps at hk
    rw [decide_eq_true_eq] at hk
    rcases hk with hk | hk
    ·omega
    ·have hl : lt d[m - 1]! d[m]! := by
      rcases hs (m - 1) m (by omega) (by omega) with e | e
      ·exact absurd e.symm hk
      ·exact e
     by_cases hjm : j = m - 1
     ·rw [hjm]; exact hl
     ·rcases hs j (m - 1) (by omega) (by omega) with e | e
      ·rw [e]; exact hl
      ·exact ht _ _ _ e hl
   ·rw [List.mem_append, h2, List.mem_singleton]
    constructor
    ·rintro (⟨j, hj, e⟩ | e)
     ·exact ⟨j, by omega, e⟩
     ·exact ⟨m, by omega, e.symm⟩
    ·rintro ⟨j, hj, e⟩
     by_cases hjm : j = m
     ·subst hjm; exact .inr e.symm
     ·exact .inl ⟨j, by omega, e⟩
  ·rw [if_neg hk, List.append_nil]
   refine ⟨h1, fun x => ?_⟩
   rw [h2]
   have hk' : m ≠ 0 ∧ d[m]! = d[m - 1]! := by
    unfold Lib.keeps at hk
    rw [decide_eq_true_eq, not_or, Classical.not_not] at hk
    exact hk
   constructor
   ·rintro ⟨j, hj, e⟩
    exact ⟨j, by omega, e⟩
   ·rintro ⟨j, hj, e⟩
    by_cases hjm : j = m
    ·subst hjm
     exact ⟨j - 1, by omega, by rw [← hk'.2]; exact e⟩
    ·exact ⟨j, by omega, e⟩
theorem compact_is {α : Type} [Inhabited α] [DecidableEq α] (lt : α → α → Prop) (ht : ∀ a b c, lt a b → lt b c → lt a c) (zs : List α) (hs : zs.Pairwise fun a b => a = b ∨ lt a b) :
  (Lib.compact zs).Pairwise lt ∧ ∀ x, x ∈ Lib.compact zs ↔ x ∈ zs := by
 have hp := List.pairwise_iff_getElem.1 hs
 have hg : ∀ i (h : i < zs.length), zs.toArray[i]! = zs[i] := fun i h => by
  rw [getElem!_pos zs.toArray i (by simpa using h)]
  simp
 obtain ⟨h1, h2⟩ := compact_upto lt ht zs.toArray (fun i j hij hj => by
  have hj' : j < zs.length := by simpa using hj
  rw [hg i (by omega), hg j hj']
  exact hp i j (by omega) hj' hij) zs.length (by simp)
 refine ⟨h1, fun x => ?_⟩
 unfold Lib.compact
 rw [h2, List.mem_iff_getElem]
 constructor
 ·rintro ⟨j, hj, e⟩
  exact ⟨j, hj, by rw [← hg j hj]; exact e⟩
 ·rintro ⟨j, hj, e⟩
  exact ⟨j, hj, by rw [hg j hj]; exact e⟩

/-- A list that is sorted in numbers, then its equal neighbours made one: the set's list. -/
theorem sort_compact_is (xs : List Int) : IsSet (fun x => x ∈ xs) (Lib.compact (xs.mergeSort fun x y => decide (x ≤ y))) := by
 have hs : (xs.mergeSort fun x y => decide (x ≤ y)).Pairwise fun a b => a = b ∨ a < b := by
  have := List.pairwise_mergeSort (le := fun (x y : Int) => decide (x ≤ y)) (fun a b c h1 h2 => by simp at *; omega) (fun a b => by simp; omega) xs
  exact this.imp fun h => by simp at h; omega
 obtain ⟨h1, h2⟩ := compact_is (fun a b : Int => a < b) (fun a b c h k => by omega) _ hs
 exact ⟨fun x => (h2 x).trans List.mem_mergeSort, h1⟩
/-- Strictly ascending lists with the same members are one list. -/
theorem rise_unique {α : Type} (lt : α → α → Prop) (hi : ∀ a, ¬ lt a a) (ha : ∀ a b, lt a b → ¬ lt b a) : ∀ (l m : List α), l.Pairwise lt → m.Pairwise lt → (∀ x, x ∈ l ↔ x ∈ m) → l = m
 | [], [], _, _, _ => rfl
 | [], b :: m, _, _, h => by have := (h b).2 (by simp); simp at this
 | a :: l, [], _, _, h => by have := (h a).1 (by simp); simp at this
 | a :: l, b :: m, hl, hm, h => by
  rw [List.pairwise_cons] at hl hm
  have e : a = b := by
   have h1 := (h a).1 (by simp)
   have h2 := (h b).2 (by simp)
   rw [List.mem_cons] at h1 h2
   rcases h1 with h1 | h1
   ·exact h1
   ·rcases h2 with h2 | h2
    ·exact h2.symm
    ·exact absurd (hl.1 b h2) (ha _ _ (hm.1 a h1))
  subst e
  rw [rise_unique lt hi ha l m hl.2 hm.2 fun x => ?_]
  constructor
  ·intro hx
   have h1 := (h x).1 (by simp [hx])
   rw [List.mem_cons] at h1
   rcases h1 with h1 | h1
   ·subst h1; exact absurd (hl.1 x hx) (hi x)
   ·exact h1
  ·intro hx
   have h1 := (h x).2 (by simp [hx])
   rw [List.mem_cons] at h1
   rcases h1 with h1 | h1
   ·subst h1; exact absurd (hm.1 x hx) (hi x)
   ·exact h1

end Go.Proofs.YtifoinannefcpaaGreatDoor
