/-
  What the implementation's IsDeterministicLts computes.
  What the implementation's observedCode computes.
  The program's MakeMonitor.
  How the search over pairs lies in the reference's memory.
  What the reference's functions on systems compute: the edges from a state, the step by a label.
  What the reference's step by a label computes.
-/
import Derived.Test.YtmhpfmanagbggaaGreatDoorK13
import Derived.Test.YtmhpfmanagbggaaGreatDoorK18
import Derived.Test.YtmhpfmanagbggaaGreatDoorK16
import Derived.Test.YtmhpfmanagbggaaGreatDoorK11
import Derived.Test.YtmhpfmanagbggaaGreatDoorK10
import Derived.Test.YtmhpfmanagbggaaGreatDoorK3
namespace Go.Proofs.YtmhpfmanagbggaaGreatDoor
open Go Go.RowKit

set_option maxRecDepth 100000 in
set_option maxHeartbeats 4000000 in
theorem IsDet_any (lo : Nat) (t : Lts) (lv ev : Value) (w : World) (hsh : Short20 t.labels) (hl : SliceK 1 encS lo w lv t.labels) (he : SliceK 3 encE lo w ev t.edges) (g : Glob w) :
  Calls Tryz.prog 40 #[.agg #[.int .i64 t.states, .int .i64 t.initial, lv, ev]] w (Decides (Valid t ∧ Single t) w) := by
 have HB0 : Hid (Below w.heap.size w (w.alloc (.cells #[.int .i64 t.states, .int .i64 t.initial, lv, ev] 29))) := box_below _ _ _
 by_cases hv : Valid t
 ·have HV := Lib.hid (Valid_yes hv hsh (hl.below HB0.out) (he.below HB0.out) (g.below HB0.out))
  have HVV := Lib.hid hv
  clear hv hsh hl g
  obtain ⟨ae, ce, rfl, hen, hec, her⟩ := he
  have HER := Lib.hid her
  clear her
  go_enter Tryz.func40, Tryz.ntmps40
  go_wp2_with fail
  refine Calls.mono HV.out ?_
  rintro e w1 ⟨rfl, hb1⟩
  have HB1 := Lib.hid (HB0.out.trans (hb1.mono HB0.out.size))
  have q3 : w1.cell? ⟨w.heap.size, 3, none⟩ = some (.slice ae t.edges.length ce) := keeps hb1 (by simp) (by simp)
  have hbz : w.heap.size < w1.heap.size := by have := hb1.size; simp at this; omega
  have HER1 := Lib.hid (HER.out.below HB1.out)
  have Q3 := Lib.hid q3
  clear hb1 HB0 HV HER
  obtain ⟨b0, hb0⟩ : ∃ b0, b0 = w.heap.size := ⟨_, rfl⟩
  rw [← hb0] at hbz Q3 q3
  simp only [← hb0]
  have HB00 := Lib.hid hb0
  clear hb0
  go_wp2_with fail
  clear q3
  go_loopw [11] (fun i wr => ∃ k : Nat, k ≤ t.edges.length ∧ i = .int .i64 k ∧ Below w1.heap.size w1 wr ∧ (∀ q (h : q < t.edges.length), q < k → t.edges[q].lab ≠ 0) ∧ (∀ q (h : q + 1 < t.edges.length), q + 1 < k → ¬ (t.edges[q + 1].src = t.edges[q].src ∧ t.edges[q + 1].lab = t.edges[q].lab))) (fun i _ => t.edges.length - (intOf i).toNat)
  case atStart => exact ⟨0, Nat.zero_le _, rfl, Below.refl _ _, fun _ _ h => by omega, fun _ _ h => by omega⟩
  case round =>
   obtain ⟨k, hk, rfl, hbl, hx1, hx2⟩ := hrel
   have HX1 := Lib.hid hx1
   have HX2 := Lib.hid hx2
   have HBE := Lib.hid hbl
   have hsz := hbl.size
   have q3 := keeps hbl hbz Q3.out
   clear hx1 hx2 hbl
   by_cases hlt : k < t.edges.length
   ·obtain ⟨be, oe, rfl, -, hbe, e1, e2, e3⟩ := (HER1.out.below HBE.out).edge hlt
    have HROW := Lib.hid (HER1.out.below HBE.out)
    obtain ⟨e, hee⟩ : ∃ e, e = t.edges[k] := ⟨_, rfl⟩
    rw [← hee] at e1 e2 e3
    have HEE := Lib.hid hee
    clear hee
    have HO : Below wr.heap.size wr (wr.alloc (.cells #[.int .i64 e.src, .int .i64 e.lab, .int .i64 e.dst] 67)) := box_below _ _ _
    have s3 := later_cell (w0 := wr.alloc (.cells #[.int .i64 e.src, .int .i64 e.lab, .int .i64 e.dst] 67)) (b := b0) (by simp; omega) (keeps HO (by omega) q3)
    have t0 := later_cell (w0 := wr.alloc (.cells #[.int .i64 e.src, .int .i64 e.lab, .int .i64 e.dst] 67)) (b := wr.heap.size) (o := 0) (v := .int .i64 e.src) (by simp) (by simp)
    have t1 := later_cell (w0 := wr.alloc (.cells #[.int .i64 e.src, .int .i64 e.lab, .int .i64 e.dst] 67)) (b := wr.heap.size) (o := 1) (v := .int .i64 e.lab) (by simp) (by simp)
    have HO2 := Lib.hid HO
    have HLT : Hid (Below w1.heap.size w1 (wr.alloc (.cells #[.int .i64 e.src, .int .i64 e.lab, .int .i64 e.dst] 67))) := HBE.out.trans (HO.mono hsz)
    cases g1 : (e.lab == 0)
    ·have HG1 : Hid (t.edges[k].lab ≠ 0) := by unfold Hid; rw [← HEE.out]; simpa using g1
     rcases Nat.eq_zero_or_pos k with hk0 | hk0
     ·have hk1 : decide ((0 : Int) < (k : Int)) = false := by rw [decide_eq_false_iff_not]; omega
      have hk2 : decide (0 < k) = false := by rw [decide_eq_false_iff_not]; omega
      have hk3 : ¬ (0 : Int) < (k : Int) := by omega
      have hk4 : ¬ 0 < k := by omega
      have HK0 : Hid (k = 0) := hk0
      clear hk0 HO
      go_wp2_with fail
      refine wp_region_later (by kernel_rfl) (by kernel_rfl) ?_
      repeat (go_big_quiet_step ((fail)))
      refine wpQuiet_nil ?_
      intro _ hw9
      obtain ⟨nl, hw8⟩ := hw9
      subst hw8
      clear g1 t0 t1 s3
      go_wp2_with fail
      go_roundw
      case rel => exact ⟨k + 1, by omega, by go_num, HLT.out.trans (nl.h.mono HLT.out.size), fun q h h' => by
        obtain rfl : q = k := by have := HK0.out; omega
        exact HG1.out, fun q h h' => by
        have := HK0.out; omega⟩
      case measure => simp [intOf]; omega
     ·obtain ⟨m, rfl⟩ : ∃ m, k = m + 1 := ⟨k - 1, by omega⟩
      obtain ⟨_, _, e9, -, -, d1, d2, -⟩ := HROW.out.edge (show m < t.edges.length by omega)
      simp only [Option.some.injEq, Addr.mk.injEq, and_true] at e9
      obtain ⟨rfl, rfl⟩ := e9
      replace d1 := later_cell (w0 := wr.alloc (.cells #[.int .i64 e.src, .int .i64 e.lab, .int .i64 e.dst] 67)) (b := be) (by simp; omega) (keeps HO hbe d1)
      replace d2 := later_cell (w0 := wr.alloc (.cells #[.int .i64 e.src, .int .i64 e.lab, .int .i64 e.dst] 67)) (b := be) (by simp; omega) (keeps HO hbe d2)
      have hk1 : decide ((0 : Int) < (m : Int) + 1) = true := by rw [decide_eq_true_eq]; omega
      have hk2 : (0 : Int) < (m : Int) + 1 := by omega
      clear hk0 HO
      cases g2 : (t.edges[m].src == e.src)
      ·have HG2 : Hid (¬ t.edges[m + 1].src = t.edges[m].src) := by unfold Hid; rw [← HEE.out]; rw [beq_eq_false_iff_ne] at g2; exact fun h => g2 h.symm
       go_wp2_with fail
       refine wp_region_later (by kernel_rfl) (by kernel_rfl) ?_
       repeat (go_big_quiet_step ((fail)))
       refine wpQuiet_nil ?_
       intro _ hw9
       obtain ⟨nl, hw8⟩ := hw9
       subst hw8
       clear g1 t0 t1 s3
       go_wp2_with fail
       go_roundw
       case rel => exact ⟨m + 1 + 1, by omega, by go_num, HLT.out.trans (nl.h.mono HLT.out.size), fun q h h' => by
         by_cases e9 : q = m + 1
         ·subst e9; exact HG1.out
         ·exact HX1.out q h (by omega), fun q h h' => by
         by_cases e9 : q = m
         ·subst e9; exact fun h => HG2.out h.1
         ·exact HX2.out q h (by omega)⟩
       case measure => simp [intOf]; omega
      ·have HG2 : Hid (t.edges[m + 1].src = t.edges[m].src) := by unfold Hid; rw [← HEE.out]; rw [beq_iff_eq] at g2; exact g2.symm
       cases g3 : (t.edges[m].lab == e.lab)
       ·have HG3 : Hid (¬ t.edges[m + 1].lab = t.edges[m].lab) := by unfold Hid; rw [← HEE.out]; rw [beq_eq_false_iff_ne] at g3; exact fun h => g3 h.symm
        go_wp2_with fail
        refine wp_region_later (by kernel_rfl) (by kernel_rfl) ?_
        repeat (go_big_quiet_step ((fail)))
        refine wpQuiet_nil ?_
        intro _ hw9
        obtain ⟨nl, hw8⟩ := hw9
        subst hw8
        clear g1 t0 t1 s3
        go_wp2_with fail
        go_roundw
        case rel => exact ⟨m + 1 + 1, by omega, by go_num, HLT.out.trans (nl.h.mono HLT.out.size), fun q h h' => by
          by_cases e9 : q = m + 1
          ·subst e9; exact HG1.out
          ·exact HX1.out q h (by omega), fun q h h' => by
          by_cases e9 : q = m
          ·subst e9; exact fun h => HG3.out h.2
          ·exact HX2.out q h (by omega)⟩
        case measure => simp [intOf]; omega
       ·have HG3 : Hid (t.edges[m + 1].lab = t.edges[m].lab) := by unfold Hid; rw [← HEE.out]; rw [beq_iff_eq] at g3; exact g3.symm
        go_wp2_with fail
        refine wp_region_later (by kernel_rfl) (by kernel_rfl) ?_
        repeat (go_big_quiet_step ((fail)))
        refine wpQuiet_nil ?_
        intro _ hw9
        obtain ⟨nl, hw8⟩ := hw9
        subst hw8
        go_wp2_with fail
        go_ret
        refine ⟨false, rfl, ⟨(fun h => by cases h), fun h => ?_⟩, HB1.out.trans ((HLT.out.trans (nl.h.mono HLT.out.size)).mono HB1.out.size)⟩
        exact absurd ⟨HG2.out, HG3.out⟩ (h.2.one m hlt)
    ·have HG1 : Hid (t.edges[k].lab = 0) := by unfold Hid; rw [← HEE.out]; simpa using g1
     clear HO
     go_wp2_with fail
     refine wp_region_later (by kernel_rfl) (by kernel_rfl) ?_
     repeat (go_big_quiet_step ((fail)))
     refine wpQuiet_nil ?_
     intro _ hw9
     obtain ⟨nl, hw8⟩ := hw9
     subst hw8
     go_wp2_with fail
     go_ret
     refine ⟨false, rfl, ⟨(fun h => by cases h), fun h => ?_⟩, HB1.out.trans ((HLT.out.trans (nl.h.mono HLT.out.size)).mono HB1.out.size)⟩
     exact absurd HG1.out (h.2.visible k hlt)
   ·go_wp2_with fail
    go_ret
    exact ⟨true, rfl, ⟨fun _ => ⟨HVV.out, fun q h => HX1.out q h (by omega), fun q h => HX2.out q h (by omega)⟩, fun _ => rfl⟩, HB1.out.trans (HBE.out.mono HB1.out.size)⟩
 ·have HV := Lib.hid (Valid_no hv hsh (hl.below HB0.out) (he.below HB0.out) (g.below HB0.out))
  have HVV := Lib.hid hv
  clear hv hsh hl he g
  go_enter Tryz.func40, Tryz.ntmps40
  go_wp2_with fail
  refine Calls.mono HV.out ?_
  rintro e w1 ⟨rfl, hb1⟩
  have HB1 := Lib.hid (HB0.out.trans (hb1.mono HB0.out.size))
  clear hb1
  go_wp2_with fail
  go_ret
  exact ⟨false, rfl, ⟨(fun h => by cases h), fun h => absurd h.1 HVV.out⟩, HB1.out⟩

end Go.Proofs.YtmhpfmanagbggaaGreatDoor

namespace Go.Proofs.YtmhpfmanagbggaaGreatDoor
open Go Go.RowKit

set_option maxRecDepth 100000 in
set_option maxHeartbeats 1000000 in
theorem observedCode_any (lo : Nat) (t p : Lts) (lv ev lv2 ev2 : Value) (code : Int) (w : World) (h1 : Short20 t.labels) (h2 : Short20 p.labels) (hs1 : SliceK 1 encS lo w lv t.labels) (hs2 : SliceK 3 encE lo w ev t.edges)
  (hq1 : SliceK 1 encS lo w lv2 p.labels) (hq2 : SliceK 3 encE lo w ev2 p.edges) (g : Glob w) (hc : (¬ (Valid t ∧ Valid p) ∧ code = 1) ∨ (Valid t ∧ Valid p ∧ ¬ Single p ∧ code = 6) ∨ (Valid t ∧ Valid p ∧ Single p ∧ code = 0)) :
  Calls Tryz.prog 19 #[.agg #[.int .i64 t.states, .int .i64 t.initial, lv, ev], .agg #[.int .i64 p.states, .int .i64 p.initial, lv2, ev2]] w fun e w' => e = .returned (.int .i64 code) ∧ Below w.heap.size w w' := by
 have HB0 := Lib.hid (two_new' w #[.int .i64 t.states, .int .i64 t.initial, lv, ev] #[.int .i64 p.states, .int .i64 p.initial, lv2, ev2] 29)
 have HS1 := Lib.hid (hs1.below HB0.out)
 have HS2 := Lib.hid (hs2.below HB0.out)
 have HQ1 := Lib.hid (hq1.below HB0.out)
 have HQ2 := Lib.hid (hq2.below HB0.out)
 have G := Lib.hid (g.below HB0.out)
 clear hs1 hs2 hq1 hq2 g
 by_cases hv : Valid t
 ·have HVT := Lib.hid (Valid_yes hv h1 HS1.out HS2.out G.out)
  by_cases hv2 : Valid p
  ·have HVP := Lib.hid (Valid_yes hv2 h2 HQ1.out HQ2.out G.out)
   have HH2 := Lib.hid h2
   have HVV := Lib.hid hv2
   by_cases hs : Single p
   ·obtain rfl : code = 0 := by rcases hc with ⟨h, -⟩ | ⟨-, -, h, -⟩ | ⟨-, -, -, h⟩; exact absurd ⟨hv, hv2⟩ h; exact absurd hs h; exact h
    have HSS := Lib.hid hs
    clear hc h1 h2 hv hv2 hs
    go_enter Tryz.func19, Tryz.ntmps19
    go_wp2_with fail
    refine Calls.mono HVT.out ?_
    rintro e w1 ⟨rfl, hb1⟩
    have HB1 := Lib.hid hb1
    have c0 : w1.cell? ⟨w.heap.size + 1, 0, none⟩ = some (.int .i64 p.states) := keeps hb1 (by simp) (by simp)
    have c1 : w1.cell? ⟨w.heap.size + 1, 1, none⟩ = some (.int .i64 p.initial) := keeps hb1 (by simp) (by simp)
    have c2 : w1.cell? ⟨w.heap.size + 1, 2, none⟩ = some lv2 := keeps hb1 (by simp) (by simp)
    have c3 : w1.cell? ⟨w.heap.size + 1, 3, none⟩ = some ev2 := keeps hb1 (by simp) (by simp)
    have hsz : w.heap.size + 1 < w1.heap.size := by have := hb1.size; simp at this; omega
    clear hb1
    go_wp2_with fail
    refine (Valid_yes HVV.out HH2.out (HQ1.out.below HB1.out) (HQ2.out.below HB1.out) (G.out.below HB1.out)).mono ?_
    rintro e w2 ⟨rfl, hb2⟩
    have HB2 := Lib.hid (HB1.out.trans (hb2.mono HB1.out.size))
    have d0 := keeps hb2 hsz c0
    have d1 := keeps hb2 hsz c1
    have d2 := keeps hb2 hsz c2
    have d3 := keeps hb2 hsz c3
    clear hb2
    go_wp2_with fail
    refine (Decides.yes (IsDet_any lo p lv2 ev2 _ HH2.out (HQ1.out.below HB2.out) (HQ2.out.below HB2.out) (G.out.below HB2.out)) ⟨HVV.out, HSS.out⟩).mono ?_
    rintro e w3 ⟨rfl, hb3⟩
    have HB3 := Lib.hid (HB2.out.trans (hb3.mono HB2.out.size))
    clear hb3
    go_wp2_with fail
    go_ret
    exact ⟨rfl, HB0.out.trans (HB3.out.mono HB0.out.size)⟩
   ·obtain rfl : code = 6 := by rcases hc with ⟨h, -⟩ | ⟨-, -, -, h⟩ | ⟨-, -, h, -⟩; exact absurd ⟨hv, hv2⟩ h; exact h; exact absurd h hs
    have HSS : Hid (¬ (Valid p ∧ Single p)) := fun h => hs h.2
    clear hc h1 h2 hv hv2 hs
    go_enter Tryz.func19, Tryz.ntmps19
    go_wp2_with fail
    refine Calls.mono HVT.out ?_
    rintro e w1 ⟨rfl, hb1⟩
    have HB1 := Lib.hid hb1
    have c0 : w1.cell? ⟨w.heap.size + 1, 0, none⟩ = some (.int .i64 p.states) := keeps hb1 (by simp) (by simp)
    have c1 : w1.cell? ⟨w.heap.size + 1, 1, none⟩ = some (.int .i64 p.initial) := keeps hb1 (by simp) (by simp)
    have c2 : w1.cell? ⟨w.heap.size + 1, 2, none⟩ = some lv2 := keeps hb1 (by simp) (by simp)
    have c3 : w1.cell? ⟨w.heap.size + 1, 3, none⟩ = some ev2 := keeps hb1 (by simp) (by simp)
    have hsz : w.heap.size + 1 < w1.heap.size := by have := hb1.size; simp at this; omega
    clear hb1
    go_wp2_with fail
    refine (Valid_yes HVV.out HH2.out (HQ1.out.below HB1.out) (HQ2.out.below HB1.out) (G.out.below HB1.out)).mono ?_
    rintro e w2 ⟨rfl, hb2⟩
    have HB2 := Lib.hid (HB1.out.trans (hb2.mono HB1.out.size))
    have d0 := keeps hb2 hsz c0
    have d1 := keeps hb2 hsz c1
    have d2 := keeps hb2 hsz c2
    have d3 := keeps hb2 hsz c3
    clear hb2
    go_wp2_with fail
    refine (Decides.no (IsDet_any lo p lv2 ev2 _ HH2.out (HQ1.out.below HB2.out) (HQ2.out.below HB2.out) (G.out.below HB2.out)) HSS.out).mono ?_
    rintro e w3 ⟨rfl, hb3⟩
    have HB3 := Lib.hid (HB2.out.trans (hb3.mono HB2.out.size))
    clear hb3
    go_wp2_with fail
    go_ret
    exact ⟨rfl, HB0.out.trans (HB3.out.mono HB0.out.size)⟩
  ·have HN : Hid (¬ Valid p) := hv2
   obtain rfl : code = 1 := by rcases hc with ⟨-, h⟩ | ⟨-, h, -⟩ | ⟨-, h, -⟩; exact h; exact absurd h hv2; exact absurd h hv2
   have HH2 := Lib.hid h2
   clear hc h1 h2 hv hv2
   go_enter Tryz.func19, Tryz.ntmps19
   go_wp2_with fail
   refine Calls.mono HVT.out ?_
   rintro e w1 ⟨rfl, hb1⟩
   have HB1 := Lib.hid hb1
   have c0 : w1.cell? ⟨w.heap.size + 1, 0, none⟩ = some (.int .i64 p.states) := keeps hb1 (by simp) (by simp)
   have c1 : w1.cell? ⟨w.heap.size + 1, 1, none⟩ = some (.int .i64 p.initial) := keeps hb1 (by simp) (by simp)
   have c2 : w1.cell? ⟨w.heap.size + 1, 2, none⟩ = some lv2 := keeps hb1 (by simp) (by simp)
   have c3 : w1.cell? ⟨w.heap.size + 1, 3, none⟩ = some ev2 := keeps hb1 (by simp) (by simp)
   clear hb1
   go_wp2_with fail
   refine (Valid_no HN.out HH2.out (HQ1.out.below HB1.out) (HQ2.out.below HB1.out) (G.out.below HB1.out)).mono ?_
   rintro e w2 ⟨rfl, hb2⟩
   have HB2 := Lib.hid (HB1.out.trans (hb2.mono HB1.out.size))
   clear hb2
   go_wp2_with fail
   go_ret
   exact ⟨rfl, HB0.out.trans (HB2.out.mono HB0.out.size)⟩
 ·have HVT := Lib.hid (Valid_no hv h1 HS1.out HS2.out G.out)
  obtain rfl : code = 1 := by rcases hc with ⟨-, h⟩ | ⟨h, -⟩ | ⟨h, -⟩; exact h; exact absurd h hv; exact absurd h hv
  clear hc h1 h2 hv
  go_enter Tryz.func19, Tryz.ntmps19
  go_wp2_with fail
  refine Calls.mono HVT.out ?_
  rintro e w1 ⟨rfl, hb1⟩
  have HB1 := Lib.hid hb1
  clear hb1
  go_wp2_with fail
  go_ret
  exact ⟨rfl, HB0.out.trans (HB1.out.mono HB0.out.size)⟩

end Go.Proofs.YtmhpfmanagbggaaGreatDoor

namespace Go.Proofs.YtmhpfmanagbggaaGreatDoor
open Go Go.RowKit

theorem imm_results {w : World} {b : Nat} {v0 v1 v2 v3 v4 : Value} {tmps : Array Value} (hc : tmps.getD 4 undef = .pointer (some ⟨b, 0, none⟩)) (hb : Blk w b [v0, v1, v2, v3, v4] 32) :
  (results Tryz.f7 tmps).run Tryz.prog w = .ok (.tuple #[.agg #[v0, v1, v2, v3, v4], tmps.getD 5 undef]) w := by
 have h0 := hb.cell 0 rfl
 have h1 := hb.cell 1 rfl
 have h2 := hb.cell 2 rfl
 have h3 := hb.cell 3 rfl
 have h4 := hb.cell 4 rfl
 simp only [Array.getD_eq_getD_getElem?] at hc
 simp [results, Tryz.results7, go_sem, hc, h0, h1, h2, h3, h4, Result.andThen]

set_option maxRecDepth 100000 in
set_option maxHeartbeats 4000000 in
theorem implMakeMonitor_any (lo : Nat) (t : Lts) (lv ev : Value) (p : Lts) (lv2 ev2 : Value) (w : World) (h1 : Short20 t.labels) (h2 : Short20 p.labels) (hs1 : SliceK 1 encS lo w lv t.labels) (hs2 : SliceK 3 encE lo w ev t.edges)
  (hq1 : SliceK 1 encS lo w lv2 p.labels) (hq2 : SliceK 3 encE lo w ev2 p.edges) (g : Glob w) :
  Calls Tryz.prog 7 #[.agg #[.int .i64 t.states, .int .i64 t.initial, lv, ev], .agg #[.int .i64 p.states, .int .i64 p.initial, lv2, ev2]] w (RetMkM t p w) := by
 obtain ⟨tb, htb⟩ : ∃ tb, tb = w.heap.size := ⟨_, rfl⟩
 obtain ⟨wB, hwB⟩ : ∃ wB, wB = (w.alloc (.cells #[.int .i64 t.states, .int .i64 t.initial, lv, ev] 29)).alloc (.cells #[.int .i64 p.states, .int .i64 p.initial, lv2, ev2] 29) := ⟨_, rfl⟩
 obtain ⟨wA, hwA⟩ : ∃ wA, wA = wB.alloc (.cells #[.int .i64 0, .int .i64 0, .slice none 0 0, .slice none 0 0, .slice none 0 0] 32) := ⟨_, rfl⟩
 have hb : Below w.heap.size w wB := by rw [hwB]; exact ((Below.refl _ _).alloc (Nat.le_refl _) _).alloc (by simp) _
 have hsB : wB.heap.size = tb + 1 + 1 := by rw [hwB, htb]; simp
 have hbA : Below w.heap.size w wA := by rw [hwA]; exact hb.alloc hb.size _
 have hBA : Below wB.heap.size wB wA := by rw [hwA]; exact (Below.refl _ _).alloc (Nat.le_refl _) _
 have hR : Blk wA (tb + 1 + 1) [.int .i64 0, .int .i64 0, .slice none 0 0, .slice none 0 0, .slice none 0 0] 32 := by
  have := Blk.new wB [.int .i64 0, .int .i64 0, .slice none 0 0, .slice none 0 0, .slice none 0 0] 32
  rw [hsB] at this
  rw [hwA]
  exact this
 have hT : Blk wA tb [.int .i64 t.states, .int .i64 t.initial, lv, ev] 29 := by rw [hwA, hwB, htb]; exact ((Blk.new w _ _).alloc _).alloc _
 have hP : Blk wA (tb + 1) [.int .i64 p.states, .int .i64 p.initial, lv2, ev2] 29 := by
  have h := Blk.new (w.alloc (.cells #[.int .i64 t.states, .int .i64 t.initial, lv, ev] 29)) [.int .i64 p.states, .int .i64 p.initial, lv2, ev2] 29
  rw [World.size_alloc, ← htb] at h
  rw [hwA, hwB]
  exact h.alloc _
 have HTB1 := Lib.hid hT
 have HPB1 := Lib.hid hP
 have HS1 := Lib.hid (hs1.below hbA)
 have HS2 := Lib.hid (hs2.below hbA)
 have HQ1 := Lib.hid (hq1.below hbA)
 have HQ2 := Lib.hid (hq2.below hbA)
 have HGA := Lib.hid (g.below hbA)
 have c0 := hT.cell 0 rfl
 have c1 := hT.cell 1 rfl
 have c2 := hT.cell 2 rfl
 have c3 := hT.cell 3 rfl
 have c4 := hP.cell 0 rfl
 have c5 := hP.cell 1 rfl
 have c6 := hP.cell 2 rfl
 have c7 := hP.cell 3 rfl
 rw [hwA, hwB, htb] at c0 c1 c2 c3 c4 c5 c6 c7
 have HBA := Lib.hid hbA
 have HR := Lib.hid hR
 have HWA := Lib.hid hwA
 have HWB := Lib.hid hwB
 have HTB := Lib.hid htb
 have HH1 := Lib.hid h1
 have HH2 := Lib.hid h2
 have hle : w.heap.size ≤ tb + 1 + 1 := by rw [htb]; omega
 clear h1 h2 hs1 hs2 hq1 hq2 g hT hP hb htb hwA hwB hsB hbA hBA hR
 by_cases hgood : Valid t ∧ Valid p ∧ Single p
 ·obtain ⟨hv, hv2, hsg⟩ := hgood
  have HA := Lib.hid (observedCode_any lo t p lv ev lv2 ev2 0 wA HH1.out HH2.out HS1.out HS2.out HQ1.out HQ2.out HGA.out (.inr (.inr ⟨hv, hv2, hsg, rfl⟩)))
  have HV := Lib.hid hv
  have HV2 := Lib.hid hv2
  have HSG := Lib.hid hsg
  clear hv hv2 hsg
  go_enter Tryz.func7, Tryz.ntmps7
  go_wp2_with fail
  rw [← HWB.out, ← HTB.out, ← HWA.out]
  refine Calls.mono HA.out ?_
  rintro e w1 ⟨rfl, hb1⟩
  have HB1 := Lib.hid (HBA.out.trans (hb1.mono HBA.out.size))
  have HR1 := Lib.hid (HR.out.below hb1)
  obtain ⟨S, hS⟩ : ∃ S : Nat, (S : Int) = t.states := ⟨t.states.toNat, by have := HV.out.st0; omega⟩
  obtain ⟨P, hP⟩ : ∃ P : Nat, (P : Int) = p.states := ⟨p.states.toNat, by have := HV2.out.st0; omega⟩
  have HD := Lib.hid (monitor_any lo S P t p lv ev lv2 ev2 w1 ⟨HV.out, HV2.out, HSG.out, hS, hP, HS1.out.below hb1, HS2.out.below hb1, HQ1.out.below hb1, HQ2.out.below hb1⟩ (HGA.out.below hb1) HH1.out)
  have t0 := (HTB1.out.below hb1).cell 0 rfl
  have t1 := (HTB1.out.below hb1).cell 1 rfl
  have t2 := (HTB1.out.below hb1).cell 2 rfl
  have t3 := (HTB1.out.below hb1).cell 3 rfl
  have p0 := (HPB1.out.below hb1).cell 0 rfl
  have p1 := (HPB1.out.below hb1).cell 1 rfl
  have p2 := (HPB1.out.below hb1).cell 2 rfl
  have p3 := (HPB1.out.below hb1).cell 3 rfl
  have hs1 : w.heap.size ≤ w1.heap.size := HB1.out.size
  clear hb1 HA c0 c1 c2 c3 c4 c5 c6 c7 hS hP
  go_wp2_with fail
  refine Calls.mono HD.out ?_
  clear t0 t1 t2 t3 p0 p1 p2 p3
  rintro e w5 ⟨hb5, c, d, hc, hd, ⟨hfull, rfl⟩ | ⟨st, lv5, ev5, vv5, hok, rfl, hown, hvo⟩⟩
  ·have HM : Hid (MkMIs t p MonZ 5) := Lib.hid (.inr (.inr ⟨HV.out, HV2.out, HSG.out, c, d, hc, hd, .inl ⟨hfull, rfl, rfl⟩⟩))
   obtain ⟨W5, hW5⟩ : ∃ W5, W5 = w5.alloc (.cells #[.int .i64 0, .int .i64 0, .slice none 0 0, .slice none 0 0, .slice none 0 0] 32) := ⟨_, rfl⟩
   have hb6 : Below w5.heap.size w5 W5 := by rw [hW5]; exact (Below.refl _ _).alloc (Nat.le_refl _) _
   have HB5 := Lib.hid ((HB1.out.trans (hb5.mono hs1)).trans (hb6.mono (HB1.out.trans (hb5.mono hs1)).size))
   have HR5 := Lib.hid ((HR1.out.below hb5).below hb6)
   have HW5 := Lib.hid hW5
   have r0 := HR5.out.cell 0 rfl
   have r1 := HR5.out.cell 1 rfl
   have r2 := HR5.out.cell 2 rfl
   have r3 := HR5.out.cell 3 rfl
   have r4 := HR5.out.cell 4 rfl
   have s0 := HR5.out.frozen 0
   have s1 := HR5.out.frozen 1
   have s2 := HR5.out.frozen 2
   have s3 := HR5.out.frozen 3
   have s4 := HR5.out.frozen 4
   rw [hW5] at r0 r1 r2 r3 r4 s0 s1 s2 s3 s4
   clear hb5 hc hd hfull HD hb6 hW5
   go_wp2
   rw [← HW5.out]
   refine bodyPost_ret (imm_results rfl (((((HR5.out.set 0 _).set 1 _).set 2 _).set 3 _).set 4 _)) rfl ?_
   exact mkm_none (((((HB5.out.setCell hle _).setCell hle _).setCell hle _).setCell hle _).setCell hle _) HM.out
  ·obtain ⟨la5, lc5, rfl, -, -⟩ := owns_slice hown.1
   obtain ⟨ea5, ec5, rfl, -, -⟩ := owns_slice hown.2
   obtain ⟨va5, vc5, rfl, -, -⟩ := owns_slice hvo
   have HM : Hid (MkMIs t p (monW t p c d st) 0) := Lib.hid (.inr (.inr ⟨HV.out, HV2.out, HSG.out, c, d, hc, hd, .inr ⟨st, hok, rfl, rfl⟩⟩))
   obtain ⟨M, hM⟩ : ∃ M, M = monW t p c d st := ⟨_, rfl⟩
   have hMs : (st.rows.length : Int) = M.sys.states := by rw [hM]; rfl
   have hMi : M.sys.initial = 0 := by rw [hM]; rfl
   rw [← hM] at hown hvo HM ⊢
   obtain ⟨R, hR⟩ : ∃ R, R = st.rows.length := ⟨_, rfl⟩
   rw [← hR] at hMs
   rw [← hR]
   obtain ⟨LN, hLN⟩ : ∃ LN, LN = M.sys.labels.length := ⟨_, rfl⟩
   obtain ⟨EN, hEN⟩ : ∃ EN, EN = M.sys.edges.length := ⟨_, rfl⟩
   obtain ⟨VN, hVN⟩ : ∃ VN, VN = M.vs.length := ⟨_, rfl⟩
   have HO1 := hown.1
   have HO2 := hown.2
   rw [← hLN] at HO1
   rw [← hEN] at HO2
   rw [← hVN] at hvo
   rw [← hLN, ← hEN, ← hVN]
   obtain ⟨W5, hW5⟩ : ∃ W5, W5 = w5.alloc (.cells #[.int .i64 R, .int .i64 0, .slice la5 LN lc5, .slice ea5 EN ec5, .slice va5 VN vc5] 32) := ⟨_, rfl⟩
   have hb6 : Below w5.heap.size w5 W5 := by rw [hW5]; exact (Below.refl _ _).alloc (Nat.le_refl _) _
   have hX5 : Blk W5 w5.heap.size [.int .i64 R, .int .i64 0, .slice la5 LN lc5, .slice ea5 EN ec5, .slice va5 VN vc5] 32 := by rw [hW5]; exact Blk.new w5 _ _
   have hO1 := Lib.hid (owns_below (own_lower HO1 hs1) hb6)
   have hO2 := Lib.hid (owns_below (own_lower HO2 hs1) hb6)
   have hVO5 := Lib.hid (owns_below (own_lower hvo hs1) hb6)
   have HB5 := Lib.hid ((HB1.out.trans (hb5.mono hs1)).trans (hb6.mono (HB1.out.trans (hb5.mono hs1)).size))
   have HR5 := Lib.hid ((HR1.out.below hb5).below hb6)
   have HW5 := Lib.hid hW5
   have r0 := HR5.out.cell 0 rfl
   have r1 := HR5.out.cell 1 rfl
   have r2 := HR5.out.cell 2 rfl
   have r3 := HR5.out.cell 3 rfl
   have r4 := HR5.out.cell 4 rfl
   have s0 := HR5.out.frozen 0
   have s1 := HR5.out.frozen 1
   have s2 := HR5.out.frozen 2
   have s3 := HR5.out.frozen 3
   have s4 := HR5.out.frozen 4
   have q0 := hX5.cell 0 rfl
   have q1 := hX5.cell 1 rfl
   have q2 := hX5.cell 2 rfl
   have q3 := hX5.cell 3 rfl
   have q4 := hX5.cell 4 rfl
   rw [hW5] at r0 r1 r2 r3 r4 s0 s1 s2 s3 s4 q0 q1 q2 q3 q4
   have HMs := Lib.hid hMs
   have HMi := Lib.hid hMi
   have HLN := Lib.hid hLN
   have HEN := Lib.hid hEN
   have HVN := Lib.hid hVN
   clear hb5 hc hd hok hown hvo HD hb6 hW5 hX5 HO1 HO2 hM hMs hMi hR hLN hEN hVN
   go_wp2
   rw [← HW5.out]
   refine bodyPost_ret (imm_results rfl (((((HR5.out.set 0 _).set 1 _).set 2 _).set 3 _).set 4 _)) rfl ?_
   refine ⟨((((HB5.out.setCell hle _).setCell hle _).setCell hle _).setCell hle _).setCell hle _, M, 0, .slice la5 LN lc5, .slice ea5 EN ec5, .slice va5 VN vc5, by rw [HMi.out, ← HMs.out]; rfl, HM.out, ⟨?_, ?_⟩, ?_⟩
   ·rw [← HLN.out]; exact own5M HR5.out hO1.out (by decide)
   ·rw [← HEN.out]; exact own5M HR5.out hO2.out (by decide)
   ·rw [← HVN.out]; exact own5M HR5.out hVO5.out (by decide)
 ·obtain ⟨code, hcode, hc, HA⟩ : ∃ code : Int, (code = 1 ∨ code = 6) ∧ MkMIs t p MonZ code ∧ Hid (Calls Tryz.prog 19 #[.agg #[.int .i64 t.states, .int .i64 t.initial, lv, ev], .agg #[.int .i64 p.states, .int .i64 p.initial, lv2, ev2]] wA fun e w' => e = .returned (.int .i64 code) ∧ Below wA.heap.size wA w') := by
   by_cases hvv : Valid t ∧ Valid p
   ·have hns : ¬ Single p := fun h => hgood ⟨hvv.1, hvv.2, h⟩
    exact ⟨6, .inr rfl, .inr (.inl ⟨hvv.1, hvv.2, hns, rfl, rfl⟩), Lib.hid (observedCode_any lo t p lv ev lv2 ev2 6 wA HH1.out HH2.out HS1.out HS2.out HQ1.out HQ2.out HGA.out (.inr (.inl ⟨hvv.1, hvv.2, hns, rfl⟩)))⟩
   ·exact ⟨1, .inl rfl, .inl ⟨hvv, rfl, rfl⟩, Lib.hid (observedCode_any lo t p lv ev lv2 ev2 1 wA HH1.out HH2.out HS1.out HS2.out HQ1.out HQ2.out HGA.out (.inl ⟨hvv, rfl⟩))⟩
  have HM := Lib.hid hc
  clear hc hgood
  rcases hcode with rfl | rfl
  all_goals (
   go_enter Tryz.func7, Tryz.ntmps7
   go_wp2_with fail
   rw [← HWB.out, ← HTB.out, ← HWA.out]
   refine Calls.mono HA.out ?_
   rintro e w1 ⟨rfl, hb1⟩
   have HB1 := Lib.hid (HBA.out.trans (hb1.mono HBA.out.size))
   have HR1 := Lib.hid (HR.out.below hb1)
   have r0 := HR1.out.cell 0 rfl
   have r1 := HR1.out.cell 1 rfl
   have r2 := HR1.out.cell 2 rfl
   have r3 := HR1.out.cell 3 rfl
   have r4 := HR1.out.cell 4 rfl
   have s0 := HR1.out.frozen 0
   have s1 := HR1.out.frozen 1
   have s2 := HR1.out.frozen 2
   have s3 := HR1.out.frozen 3
   have s4 := HR1.out.frozen 4
   clear hb1 HA c0 c1 c2 c3 c4 c5 c6 c7
   go_wp2
   refine bodyPost_ret (imm_results rfl (((((HR1.out.set 0 _).set 1 _).set 2 _).set 3 _).set 4 _)) rfl ?_
   exact mkm_none (((((HB1.out.setCell hle _).setCell hle _).setCell hle _).setCell hle _).setCell hle _) HM.out)

end Go.Proofs.YtmhpfmanagbggaaGreatDoor

namespace Go.Proofs.YtmhpfmanagbggaaGreatDoor
open Go Go.RowKit

/-- The four lists and the box that holds the verdicts' slice. -/
structure WMem (B ob : Nat) (w : World) (vr va ve vv : Value) (vs : List Value) (rs : List (List Int)) (ys : List Int) (es : List Edge) (xs : List Int) : Prop where
 rows : OwnIntss 30 2 B w vr vs rs
 atq : w.ownsRow B 2 1 va ys.length (ys.map (Value.int .i64))
 vd : w.ownsRow B 2 1 vv xs.length (xs.map (Value.int .i64))
 ed : w.ownsRow B 67 3 ve es.length (es.flatMap encE)
 far1 : ∀ (i : Nat) (h : i < vs.length), FarB vs[i] va
 far2 : ∀ (i : Nat) (h : i < vs.length), FarB vs[i] vv
 far3 : FarB va vv
 blk : Blk w ob [.int .i64 0, .int .i64 0, .slice none 0 0, .slice none 0 0, vv] 32
theorem WMem.below {B ob : Nat} {w w' : World} {vr va ve vv : Value} {vs : List Value} {rs : List (List Int)} {ys : List Int} {es : List Edge} {xs : List Int} (h : WMem B ob w vr va ve vv vs rs ys es xs) (hb : Below w.heap.size w w') : WMem B ob w' vr va ve vv vs rs ys es xs :=
 ⟨h.rows.below hb, owns_below h.atq hb, owns_below h.vd hb, owns_below h.ed hb, h.far1, h.far2, h.far3, h.blk.below hb⟩
theorem WMem.rowLt {B ob : Nat} {w : World} {vr va ve vv : Value} {vs : List Value} {rs : List (List Int)} {ys : List Int} {es : List Edge} {xs : List Int} (h : WMem B ob w vr va ve vv vs rs ys es xs) (i : Nat) (hi : i < vs.length) : ∀ x, vs[i].ownBlock = some x → x < w.heap.size :=
 fun x e => ((h.rows.2.2.1 i hi (by rw [← h.rows.1]; exact hi)).lt x e).2
/-- One verdict more. -/
theorem WMem.pushV {B ob : Nat} {w w1 w2 : World} {vr va ve vv vv' : Value} {vs : List Value} {rs : List (List Int)} {ys : List Int} {es : List Edge} {xs : List Int} {x : Int} (h : WMem B ob w vr va ve vv vs rs ys es xs) (hA : Below w.heap.size w w1) (hg : w1.grownBy w2 vv.ownBlock)
  (ho : w2.ownsRow B 2 1 vv' (xs.length + 1) (xs.map (Value.int .i64) ++ [.int .i64 x])) (ha : vv'.ownBlock = vv.ownBlock ∨ vv'.ownBlock = some w1.heap.size) :
  WMem B ob (w2.setCell ⟨ob, 4, none⟩ vv') vr va ve vv' vs rs ys es (xs ++ [x]) := by
 have h1 := h.below hA
 have hb2 : Blk w2 ob _ _ := h1.blk.kept hg (blk_own_ne' h1.blk h1.vd (by decide))
 have r2 := h1.rows.kept hg (own_types h1.rows.2.1 h1.vd (by decide)) (fun i hi => (h1.far2 i hi).or)
 have a2 := h1.atq.kept hg h1.far3.or
 have e2 := h1.ed.kept hg (own_types h1.ed h1.vd (by decide))
 refine ⟨r2.set1 hb2 (by decide) (by decide) 4 _, own_sets a2 hb2 (by decide) 4 _, ?_, own_sets e2 hb2 (by decide) 4 _, h1.far1, fun i hi => (h1.far2 i hi).new (h1.rowLt i hi) ha, h1.far3.new (fun x e => (h1.atq.lt x e).2) ha, hb2.set 4 _⟩
 have := own_sets ho hb2 (by decide) 4 vv'
 rw [List.length_append, List.map_append]
 exact this
/-- One state of the property more. -/
theorem WMem.pushA {B ob : Nat} {w w1 w2 : World} {vr va va' ve vv : Value} {vs : List Value} {rs : List (List Int)} {ys : List Int} {es : List Edge} {xs : List Int} {y : Int} (h : WMem B ob w vr va ve vv vs rs ys es xs) (hA : Below w.heap.size w w1) (hg : w1.grownBy w2 va.ownBlock)
  (ho : w2.ownsRow B 2 1 va' (ys.length + 1) (ys.map (Value.int .i64) ++ [.int .i64 y])) (ha : va'.ownBlock = va.ownBlock ∨ va'.ownBlock = some w1.heap.size) :
  WMem B ob w2 vr va' ve vv vs rs (ys ++ [y]) es xs := by
 have h1 := h.below hA
 refine ⟨h1.rows.kept hg (own_types h1.rows.2.1 h1.atq (by decide)) (fun i hi => (h1.far1 i hi).or), ?_, h1.vd.kept hg h1.far3.symm.or, h1.ed.kept hg (own_types h1.ed h1.atq (by decide)), fun i hi => (h1.far1 i hi).new (h1.rowLt i hi) ha, h1.far2, (h1.far3.symm.new (fun x e => (h1.vd.lt x e).2) ha).symm, h1.blk.kept hg (blk_own_ne' h1.blk h1.atq (by decide))⟩
 rw [List.length_append, List.map_append]
 exact ho
/-- One set more. -/
theorem WMem.pushR {B B2 ob : Nat} {w w1 w2 : World} {vr vr' va ve vv rv : Value} {vs : List Value} {rs : List (List Int)} {ys : List Int} {es : List Edge} {xs : List Int} {r : List Int} (h : WMem B ob w vr va ve vv vs rs ys es xs) (hA : Below w.heap.size w w1) (hrow : w1.ownsRow B2 2 1 rv r.length (r.map (Value.int .i64)))
  (hB2 : w.heap.size ≤ B2) (hB : B ≤ w.heap.size) (hg : w1.grownBy w2 vr.ownBlock) (hv : w2.ownsRow B 30 1 vr' (vs.length + 1) (vs ++ [rv])) :
  WMem B ob w2 vr' va ve vv (vs ++ [rv]) (rs ++ [r]) ys es xs := by
 have h1 := h.below hA
 have hnew : ∀ x, rv.ownBlock = some x → w.heap.size ≤ x := fun x e => Nat.le_trans hB2 (hrow.lt x e).1
 refine ⟨OwnIntss.push (B := B2) (xs := r) (by decide) h.rows hB2 hA hrow (Nat.le_trans hB hB2) hg hv, h1.atq.kept hg (own_types h1.atq h1.rows.2.1 (by decide)), h1.vd.kept hg (own_types h1.vd h1.rows.2.1 (by decide)), h1.ed.kept hg (own_types h1.ed h1.rows.2.1 (by decide)), fun i hi => ?_, fun i hi => ?_, h1.far3, h1.blk.kept hg (blk_own_ne' h1.blk h1.rows.2.1 (by decide))⟩
 ·by_cases hlt : i < vs.length
  ·rw [List.getElem_append_left hlt]; exact h.far1 i hlt
  ·have e : i = vs.length := by simp at hi; omega
   subst e
   rw [List.getElem_concat_length rfl]
   intro x hx hy
   have := hnew x hx
   have := (h.atq.lt x hy).2
   omega
 ·by_cases hlt : i < vs.length
  ·rw [List.getElem_append_left hlt]; exact h.far2 i hlt
  ·have e : i = vs.length := by simp at hi; omega
   subst e
   rw [List.getElem_concat_length rfl]
   intro x hx hy
   have := hnew x hx
   have := (h.vd.lt x hy).2
   omega
/-- One edge more. -/
theorem WMem.pushE {B ob : Nat} {w w1 w2 : World} {vr va ve ve' vv : Value} {vs : List Value} {rs : List (List Int)} {ys : List Int} {es : List Edge} {xs : List Int} {x : Edge} (h : WMem B ob w vr va ve vv vs rs ys es xs) (hA : Below w.heap.size w w1) (hg : w1.grownBy w2 ve.ownBlock)
  (ho : w2.ownsRow B 67 3 ve' (es.length + 1) (es.flatMap encE ++ encE x)) : WMem B ob w2 vr va ve' vv vs rs ys (es ++ [x]) xs := by
 have h1 := h.below hA
 refine ⟨h1.rows.kept hg (own_types h1.rows.2.1 h1.ed (by decide)) (fun i hi => own_types (h1.rows.2.2.1 i hi (by rw [← h1.rows.1]; exact hi)) h1.ed (by decide)), h1.atq.kept hg (own_types h1.atq h1.ed (by decide)), h1.vd.kept hg (own_types h1.vd h1.ed (by decide)), ?_, h1.far1, h1.far2, h1.far3, h1.blk.kept hg (blk_own_ne' h1.blk h1.ed (by decide))⟩
 simpa using ho
/-- The beginning: one set, one state, no edge, no verdict. -/
theorem WMem.start {w0 W : World} {B B2 : Nat} {rv : Value} {xs : List Int} {y : Int} (hB : B ≤ B2) (hB2 : B ≤ w0.heap.size) (hr : w0.ownsRow B2 2 1 rv xs.length (xs.map (Value.int .i64)))
  (hW : W = (((w0.alloc (.cells #[rv] 30)).alloc (.cells #[.int .i64 y] 2)).alloc (.cells #[.int .i64 0, .int .i64 0, .slice none 0 0, .slice none 0 0, .slice none 0 0] 32)).alloc (.cells #[] 67)) :
  WMem B (w0.heap.size + 1 + 1) W (.slice (some ⟨w0.heap.size, 0, none⟩) 1 1) (.slice (some ⟨w0.heap.size + 1, 0, none⟩) 1 1) (.slice (some ⟨w0.heap.size + 1 + 1 + 1, 0, none⟩) 0 0) (.slice none 0 0) [rv] [xs] [y] [] [] := by
 have hlt := hr.lt
 have r1 : (w0.alloc (.cells #[rv] 30)).ownsRow B 30 1 (.slice (some ⟨w0.heap.size, 0, none⟩) 1 1) 1 [rv] := World.ownsRow_lit (size := 1) w0 #[rv] 1 hB2 (by decide) rfl
 have r0 : w0.ownsRow B 2 1 rv xs.length (xs.map (Value.int .i64)) := own_lower hr hB
 have a1 := World.ownsRow_lit (base := B) (e := 2) (size := 1) (w0.alloc (.cells #[rv] 30)) #[.int .i64 y] 1 (by simp; omega) (by decide) rfl
 have b1 := Blk.new ((w0.alloc (.cells #[rv] 30)).alloc (.cells #[.int .i64 y] 2)) [.int .i64 0, .int .i64 0, .slice none 0 0, .slice none 0 0, .slice none 0 0] 32
 have e1 := World.ownsRow_lit (base := B) (e := 67) (size := 3) (((w0.alloc (.cells #[rv] 30)).alloc (.cells #[.int .i64 y] 2)).alloc (.cells #[.int .i64 0, .int .i64 0, .slice none 0 0, .slice none 0 0, .slice none 0 0] 32)) #[] 0 (by simp; omega) (by simp [maxLen]) rfl
 simp only [World.size_alloc] at a1 b1 e1
 rw [hW]
 refine ⟨⟨rfl, ((r1.alloc _).alloc _).alloc _, ?_, ?_, ?_⟩, (a1.alloc _).alloc _, World.ownsRow_nil _ _ _ _, e1, ?_, ?_, ?_, b1.alloc _⟩
 ·intro i hi hi'
  obtain rfl : i = 0 := by simp at hi; omega
  exact (((r0.alloc _).alloc _).alloc _).alloc _
 ·intro i j hi hj hij
  simp at hi hj
  omega
 ·intro i hi
  obtain rfl : i = 0 := by simp at hi; omega
  show rv.ownBlock = none ∨ rv.ownBlock ≠ some w0.heap.size
  cases hb : rv.ownBlock with
  | none => exact .inl rfl
  | some b =>
   refine .inr fun e => ?_
   have := (hlt b hb).2
   have := Option.some.inj e
   omega
 ·intro i hi
  obtain rfl : i = 0 := by simp at hi; omega
  intro x hx hy
  have := (hlt x hx).2
  have : w0.heap.size + 1 = x := Option.some.inj hy
  omega
 ·intro i hi
  exact (FarB.none _ _ _).symm
 ·exact (FarB.none _ _ _).symm

end Go.Proofs.YtmhpfmanagbggaaGreatDoor

namespace Go.Proofs.YtmhpfmanagbggaaGreatDoor
open Go Go.RowKit

set_option maxRecDepth 100000 in
set_option maxHeartbeats 4000000 in
theorem l11Single_any (p lo : Nat) (t : Lts) (w : World) (hp : LtsPtr lo w p t) : Calls Tryz.prog 30 #[.pointer (some ⟨p, 0, none⟩)] w (Decides (Single t) w) := by
 obtain ⟨lv, ev, hpl, -, -, -, q3, -, he⟩ := hp
 obtain ⟨ae, ce, rfl, hen, hec, hrow⟩ := he
 have HQ3 := Lib.hid q3
 go_enter Tryz.func30, Tryz.ntmps30
 go_wp2
 go_loopw [3] (fun i wr => ∃ k : Nat, k ≤ t.edges.length ∧ i = .int .i64 k ∧ Below w.heap.size w wr ∧ (∀ q (h : q < t.edges.length), q < k → t.edges[q].lab ≠ 0) ∧ (∀ q (h : q + 1 < t.edges.length), q + 1 < k → ¬ (t.edges[q + 1].src = t.edges[q].src ∧ t.edges[q + 1].lab = t.edges[q].lab))) (fun i _ => t.edges.length - (intOf i).toNat)
 case atStart => exact ⟨0, Nat.zero_le _, rfl, Below.refl _ _, fun _ _ h => by omega, fun _ _ h => by omega⟩
 case round =>
  obtain ⟨k, hk, rfl, hbl, hx1, hx2⟩ := hrel
  have HX1 := Lib.hid hx1
  have HX2 := Lib.hid hx2
  have HBL := Lib.hid hbl
  have hsz := hbl.size
  replace q3 := keeps hbl hpl HQ3.out
  clear hx1 hx2 hbl
  by_cases hlt : k < t.edges.length
  ·obtain ⟨be, oe, rfl, -, hbe, e1, e2, e3⟩ := (hrow.below HBL.out).edge hlt
   have s3 := later_cell (show p < wr.heap.size by omega) q3
   replace e1 := later_cell hbe e1
   replace e2 := later_cell hbe e2
   clear e3
   cases g1 : (t.edges[k].lab == 0)
   ·have HG1 : Hid (t.edges[k].lab ≠ 0) := by unfold Hid; simpa using g1
    rcases Nat.eq_zero_or_pos k with hk0 | hk0
    ·have hkz : k ≤ 0 := by omega
     have hk1 : decide ((0 : Int) < (k : Int)) = false := by rw [decide_eq_false_iff_not]; omega
     have hk2 : decide (0 < k) = false := by rw [decide_eq_false_iff_not]; omega
     have hk3 : ¬ (0 : Int) < (k : Int) := by omega
     have hk4 : ¬ 0 < k := by omega
     clear hk0 hrow
     go_wp2
     refine wp_region_later (by kernel_rfl) (by kernel_rfl) ?_
     repeat (go_big_quiet_step ((fail)))
     refine wpQuiet_nil ?_
     intro _ hw9
     obtain ⟨nl, hw8⟩ := hw9
     subst hw8
     clear e1 e2 g1
     have s3 := s3 nl
     go_wp2
     go_roundw
     case rel => exact ⟨k + 1, by omega, by go_num, HBL.out.trans (nl.h.mono hsz), fun q h h' => by
       obtain rfl : q = k := by omega
       exact HG1.out, fun q h h' => by omega⟩
     case measure => simp [intOf]; omega
    ·obtain ⟨m, rfl⟩ : ∃ m, k = m + 1 := ⟨k - 1, by omega⟩
     clear hk0
     obtain ⟨_, _, e9, -, -, d1, d2, d3⟩ := (hrow.below HBL.out).edge (show m < t.edges.length by omega)
     simp only [Option.some.injEq, Addr.mk.injEq, and_true] at e9
     obtain ⟨rfl, rfl⟩ := e9
     replace d1 := later_cell hbe d1
     replace d2 := later_cell hbe d2
     clear d3 hrow
     have hk1 : decide ((0 : Int) < (m : Int) + 1) = true := by rw [decide_eq_true_eq]; omega
     have hk2 : (0 : Int) < (m : Int) + 1 := by omega
     cases g2 : (t.edges[m + 1].src == t.edges[m].src)
     ·have HG2 : Hid (¬ t.edges[m + 1].src = t.edges[m].src) := by unfold Hid; simpa using g2
      go_wp2
      refine wp_region_later (by kernel_rfl) (by kernel_rfl) ?_
      repeat (go_big_quiet_step ((fail)))
      refine wpQuiet_nil ?_
      intro _ hw9
      obtain ⟨nl, hw8⟩ := hw9
      subst hw8
      clear e1 e2 g1 g2 d1 d2
      have s3 := s3 nl
      go_wp2
      go_roundw
      case rel => exact ⟨m + 1 + 1, by omega, by go_num, HBL.out.trans (nl.h.mono hsz), fun q h h' => by
        by_cases e : q = m + 1
        ·subst e; exact HG1.out
        ·exact HX1.out q h (by omega), fun q h h' => by
        by_cases e : q = m
        ·subst e; exact fun h => HG2.out h.1
        ·exact HX2.out q h (by omega)⟩
      case measure => simp [intOf]; omega
     ·cases g3 : (t.edges[m + 1].lab == t.edges[m].lab)
      ·have HG3 : Hid (¬ t.edges[m + 1].lab = t.edges[m].lab) := by unfold Hid; simpa using g3
       go_wp2
       refine wp_region_later (by kernel_rfl) (by kernel_rfl) ?_
       repeat (go_big_quiet_step ((fail)))
       refine wpQuiet_nil ?_
       intro _ hw9
       obtain ⟨nl, hw8⟩ := hw9
       subst hw8
       clear e1 e2 g1 g2 g3 d1 d2
       have s3 := s3 nl
       go_wp2
       go_roundw
       case rel => exact ⟨m + 1 + 1, by omega, by go_num, HBL.out.trans (nl.h.mono hsz), fun q h h' => by
         by_cases e : q = m + 1
         ·subst e; exact HG1.out
         ·exact HX1.out q h (by omega), fun q h h' => by
         by_cases e : q = m
         ·subst e; exact fun h => HG3.out h.2
         ·exact HX2.out q h (by omega)⟩
       case measure => simp [intOf]; omega
      ·have HG2 : Hid (t.edges[m + 1].src = t.edges[m].src) := by unfold Hid; simpa using g2
       have HG3 : Hid (t.edges[m + 1].lab = t.edges[m].lab) := by unfold Hid; simpa using g3
       go_wp2
       refine wp_region_later (by kernel_rfl) (by kernel_rfl) ?_
       repeat (go_big_quiet_step ((fail)))
       refine wpQuiet_nil ?_
       intro _ hw9
       obtain ⟨nl, hw8⟩ := hw9
       subst hw8
       go_wp2
       go_ret
       exact ⟨false, rfl, ⟨(fun h => by cases h), fun h => absurd ⟨HG2.out, HG3.out⟩ (h.one m hlt)⟩, HBL.out.trans (nl.h.mono hsz)⟩
   ·clear hrow
    have HG1 : Hid (t.edges[k].lab = 0) := by unfold Hid; simpa using g1
    go_wp2
    refine wp_region_later (by kernel_rfl) (by kernel_rfl) ?_
    repeat (go_big_quiet_step ((fail)))
    refine wpQuiet_nil ?_
    intro _ hw9
    obtain ⟨nl, hw8⟩ := hw9
    subst hw8
    go_wp2
    go_ret
    exact ⟨false, rfl, ⟨(fun h => by cases h), fun h => absurd HG1.out (h.visible k hlt)⟩, HBL.out.trans (nl.h.mono hsz)⟩
  ·clear hrow
   go_wp2
   go_ret
   exact ⟨true, rfl, ⟨fun _ => ⟨fun q h => HX1.out q h (by omega), fun q h => HX2.out q h (by omega)⟩, fun _ => rfl⟩, HBL.out⟩

set_option maxRecDepth 100000 in
set_option maxHeartbeats 1000000 in
theorem l11Out_any (p lo : Nat) (t : Lts) (s : Int) (w : World) (hsmall : t.edges.length ≤ 1073741824) (hp : LtsPtr lo w p t) : Calls Tryz.prog 61 #[.pointer (some ⟨p, 0, none⟩), .int .i64 s] w (MadeOut t s w) := by
 obtain ⟨lv, ev, hpl, -, -, -, q3, -, he⟩ := hp
 obtain ⟨ae, ce, rfl, hen, hec, hrow⟩ := he
 obtain ⟨i0, hi, hz0, hz1, hz2⟩ := info_parts info_edge2
 have HQ3 := Lib.hid q3
 go_enter Tryz.func61, Tryz.ntmps61
 go_wp2
 clear q3
 go_loopw [5, 6] (fun v i wr => ∃ k : Nat, k ≤ t.edges.length ∧ i = .int .i64 k ∧ Below w.heap.size w wr ∧ wr.ownsRow w.heap.size 67 3 v ((t.edges.take k).filter fun e => e.src == s).length (((t.edges.take k).filter fun e => e.src == s).flatMap encE)) (fun _ i _ => t.edges.length - (intOf i).toNat)
 case atStart => exact ⟨0, Nat.zero_le _, rfl, (Below.refl _ _).alloc (Nat.le_refl _) _, World.ownsRow_lit (size := 3) w #[] 0 (Nat.le_refl _) (by simp [maxLen]) rfl⟩
 case round =>
  obtain ⟨k, hk, rfl, hbl, ho⟩ := hrel
  have HBL := Lib.hid hbl
  have HO := Lib.hid ho
  have hsz := hbl.size
  have q3 := keeps hbl hpl HQ3.out
  have hfl : ((t.edges.take k).filter fun e => e.src == s).length ≤ k := Nat.le_trans (List.length_filter_le _ _) (List.length_take_le _ _)
  clear hbl ho
  by_cases hlt : k < t.edges.length
  ·obtain ⟨be, oe, rfl, -, hbe, e1, e2, e3⟩ := (hrow.below HBL.out).edge hlt
   clear hrow
   cases g : (t.edges[k].src == s)
   ·have HL : Hid ((t.edges.take (k + 1)).filter (fun e => e.src == s) = (t.edges.take k).filter fun e => e.src == s) := by
     unfold Hid
     rw [List.take_succ_eq_append_getElem hlt, List.filter_append]
     simp [g]
    go_wp2
    go_roundw
    case rel => exact ⟨k + 1, by omega, by go_num, HBL.out, by rw [HL.out]; exact HO.out⟩
    case measure => simp [intOf]; omega
   ·have HL : Hid ((t.edges.take (k + 1)).filter (fun e => e.src == s) = ((t.edges.take k).filter fun e => e.src == s) ++ [t.edges[k]]) := by
     unfold Hid
     rw [List.take_succ_eq_append_getElem hlt, List.filter_append]
     simp [g]
    generalize hfs : (t.edges.take k).filter (fun e => e.src == s) = fs at *
    have HFS := Lib.hid hfs
    clear hfs
    go_wp2_with (at_builtin; refine wpList_append_own _ rfl _ _ 27 rfl w.heap.size 67 i0 (.agg #[.int .i64 0, .int .i64 0, .int .i64 0]) 3 24 Tryz.underlying27 hi hz0 hz1 hz2 rfl (by decide) _ _ _ rfl (HO.out.alloc _) ⟨wr.heap.size, 0, none⟩ 1 1 (encE t.edges[k]) rfl rfl ?c1 ?c2 ?c3 ?c4 ?c5 ?_)
    case c1 => exact three_new _ _ _
    case c2 => intro u hu; simp [encE] at hu; rcases hu with rfl | rfl | rfl <;> rfl
    case c3 => simp [maxLen]; omega
    case c4 => omega
    case c5 => simp; omega
    intro v' w1 ho1 hg1 _
    have HO2 : Hid (w1.ownsRow w.heap.size 67 3 v' (fs ++ [t.edges[k]]).length ((fs ++ [t.edges[k]]).flatMap encE)) := by
     unfold Hid
     rw [List.length_append, List.flatMap_append, List.flatMap_singleton]
     exact ho1
    have HB2 : Hid (Below w.heap.size w w1) := (HBL.out.alloc hsz _).grown hg1 (by simp; omega) (fun b e => (HO.out.lt b e).1)
    clear ho1 hg1
    go_wp2
    go_roundw
    case rel => exact ⟨k + 1, by omega, by go_num, HB2.out, by rw [HL.out]; exact HO2.out⟩
    case measure => simp [intOf]; omega
  ·clear hrow
   go_wp2
   go_ret
   obtain rfl : k = t.edges.length := by omega
   exact ⟨_, rfl, HBL.out, by unfold outOf; have := HO.out; rw [List.take_length] at this; exact this⟩

end Go.Proofs.YtmhpfmanagbggaaGreatDoor

namespace Go.Proofs.YtmhpfmanagbggaaGreatDoor
open Go Go.RowKit

set_option maxRecDepth 100000 in
set_option maxHeartbeats 4000000 in
theorem l12Go_any (p lo : Nat) (t : Lts) (q : Int) (s : ByteArray) (w : World) (hE : ∀ i (h : i < t.edges.length), EdgeOk t t.edges[i]) (hp : LtsPtr lo w p t) :
  Calls Tryz.prog 36 #[.pointer (some ⟨p, 0, none⟩), .int .i64 q, .string s] w fun e w' => e = .returned (.int .i64 (goTo t q s)) ∧ Below w.heap.size w w' := by
 obtain ⟨lv, ev, hpl, -, -, q2, q3, hl, he⟩ := hp
 obtain ⟨ae, ce, rfl, hen, hec, hrow⟩ := he
 obtain ⟨al, cl, rfl, hln, hlc, hlrow⟩ := hl
 have HQ3 := Lib.hid q3
 have HQ2 := Lib.hid q2
 have HE := Lib.hid hE
 clear hE q2
 by_cases hq : q < 0
 ·have hq' : decide (0 ≤ q) = false := by rw [decide_eq_false_iff_not]; omega
  have hg : Hid (goTo t q s = -1) := by unfold Hid goTo; rw [if_pos hq]
  by_cases h0 : 0 < t.edges.length
  ·go_enter Tryz.func36, Tryz.ntmps36
   go_wp2
   go_loopw [7] (fun i wr => i = .int .i64 0 ∧ wr = w) (fun _ _ => 0)
   case atStart => exact ⟨rfl, rfl⟩
   case round =>
    obtain ⟨rfl, rfl⟩ := hrel
    go_wp2
    go_ret
    exact ⟨ret_int hg.out.symm, Below.refl _ _⟩
  ·go_enter Tryz.func36, Tryz.ntmps36
   go_wp2
   go_loopw [7] (fun i wr => i = .int .i64 0 ∧ wr = w) (fun _ _ => 0)
   case atStart => exact ⟨rfl, rfl⟩
   case round =>
    obtain ⟨rfl, rfl⟩ := hrel
    go_wp2
    go_ret
    exact ⟨ret_int hg.out.symm, Below.refl _ _⟩
 ·have hq0 : 0 ≤ q := by omega
  have hg : Hid (goTo t q s = ((t.edges.find? (hitB t q s)).map Edge.dst).getD (-1)) := by unfold Hid goTo; rw [if_neg hq]
  clear hq
  go_enter Tryz.func36, Tryz.ntmps36
  go_wp2
  clear q3
  go_loopw [7] (fun i wr => ∃ k : Nat, k ≤ t.edges.length ∧ i = .int .i64 k ∧ Below w.heap.size w wr ∧ ∀ j (h : j < t.edges.length), j < k → hitB t q s t.edges[j] = false) (fun i _ => t.edges.length - (intOf i).toNat)
  case atStart => exact ⟨0, Nat.zero_le _, rfl, Below.refl _ _, fun _ _ h => by omega⟩
  case round =>
   obtain ⟨k, hk, rfl, hbl, hx⟩ := hrel
   have HX := Lib.hid hx
   have HBL := Lib.hid hbl
   have hsz := hbl.size
   have q3 := keeps hbl hpl HQ3.out
   have q2 := keeps hbl hpl HQ2.out
   clear hx hbl
   by_cases hlt : k < t.edges.length
   ·have hek := HE.out k hlt
    have hk0 := hek.l0
    have hk1 := hek.l1
    have hkn : t.edges[k].lab.toNat < t.labels.length := by omega
    obtain ⟨be, oe, rfl, -, hbe, e1, e2, e3⟩ := (hrow.below HBL.out).edge hlt
    obtain ⟨bl, ol, rfl, -, hbl, c1⟩ := (hlrow.below HBL.out).one hkn
    simp only [encS, List.getElem?_cons_zero] at c1
    rw [labAt_get] at c1
    have HH : Hid (hitB t q s t.edges[k] = ((t.edges[k].src == q) && ((labAt t t.edges[k]).toList == s.toList))) := rfl
    have hee : ∃ e, e = t.edges[k] := ⟨_, rfl⟩
    obtain ⟨e, hee⟩ := hee
    rw [← hee] at e1 e2 e3 c1 HH hk0 hk1 hkn
    have HEE := Lib.hid hee
    clear hee hek
    generalize labAt t e = ls at *
    have hlab : ∃ n : Nat, (n : Int) = e.lab := ⟨e.lab.toNat, by omega⟩
    obtain ⟨n, hn⟩ := hlab
    rw [← hn] at e2 c1 hk0 hk1 hkn
    simp only [Int.toNat_natCast] at c1 hkn
    clear hn hrow hlrow hk0 hk1
    have s2 := later_cell (show p < wr.heap.size by omega) q2
    have s3 := later_cell (show p < wr.heap.size by omega) q3
    have f3 := later_cell hbe e3
    replace e1 := later_cell hbe e1
    replace e2 := later_cell hbe e2
    replace c1 := later_cell hbl c1
    cases g1 : (e.src == q)
    ·have HF : Hid (hitB t q s t.edges[k] = false) := by unfold Hid; rw [← HEE.out, HH.out, g1]; rfl
     go_wp2
     refine wp_region_later (by kernel_rfl) (by kernel_rfl) ?_
     repeat (go_big_quiet_step ((fail)))
     refine wpQuiet_nil ?_
     intro _ hw9
     obtain ⟨nl, hw8⟩ := hw9
     subst hw8
     clear e1 e2 e3 f3 c1 s2 g1
     have s3 := s3 nl
     go_wp2
     go_roundw
     case rel => exact ⟨k + 1, by omega, by go_num, HBL.out.trans (nl.h.mono hsz), fun j h h' => by
       by_cases e : j = k
       ·subst e; exact HF.out
       ·exact HX.out j h (by omega)⟩
     case measure => simp [intOf]; omega
    ·cases g2 : (ls.toList == s.toList)
     ·have HF : Hid (hitB t q s t.edges[k] = false) := by unfold Hid; rw [← HEE.out, HH.out, g1, g2]; rfl
      go_wp2
      refine wp_region_later (by kernel_rfl) (by kernel_rfl) ?_
      repeat (go_big_quiet_step ((fail)))
      refine wpQuiet_nil ?_
      intro _ hw9
      obtain ⟨nl, hw8⟩ := hw9
      subst hw8
      clear e1 e2 e3 f3 c1 s2 g1 g2
      have s3 := s3 nl
      go_wp2
      go_roundw
      case rel => exact ⟨k + 1, by omega, by go_num, HBL.out.trans (nl.h.mono hsz), fun j h h' => by
        by_cases e : j = k
        ·subst e; exact HF.out
        ·exact HX.out j h (by omega)⟩
      case measure => simp [intOf]; omega
     ·have HF : Hid (goTo t q s = e.dst) := by
       unfold Hid
       have : hitB t q s t.edges[k] = true := by rw [← HEE.out, HH.out, g1, g2]; rfl
       rw [hg.out, find_at hlt HX.out this, ← HEE.out]; rfl
      go_wp2
      refine wp_region_later (by kernel_rfl) (by kernel_rfl) ?_
      repeat (go_big_quiet_step ((fail)))
      refine wpQuiet_nil ?_
      intro _ hw9
      obtain ⟨nl, hw8⟩ := hw9
      subst hw8
      clear e1 e2 e3 c1 s2 g1 g2
      have s3 := s3 nl
      have f3 := f3 nl
      go_wp2
      go_ret
      exact ⟨ret_int HF.out.symm, HBL.out.trans (nl.h.mono hsz)⟩
   ·clear hrow hlrow
    go_wp2
    go_ret
    refine ⟨ret_int ?_, HBL.out⟩
    rw [hg.out, find_none (fun j h => HX.out j h (by omega))]; rfl

end Go.Proofs.YtmhpfmanagbggaaGreatDoor
