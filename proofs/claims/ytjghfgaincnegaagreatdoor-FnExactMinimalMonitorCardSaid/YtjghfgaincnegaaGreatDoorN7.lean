/-
  What the implementation's IsDeterministicLts computes.
  The library's slices.IndexFunc and slices.ContainsFunc at a slice of edges, with a function that may lay blocks of its own.
  The library's slices.IndexFunc and slices.ContainsFunc at a slice of numbers, with a function that may lay blocks of its own.
  A plant, a supervisor and a requirement: the triples of states that are reached, those from which a marked one is reached, what makes a plant valid, when a supervisor controls it; how a plant lies in memory. Plain laws; no program in sight.
  Sets of states as ascending lists; what internal edges reach; the deterministic system of a system, found row for row. Plain definitions; no program in sight.
  The rows found are all different and all sets of states; the edges lie within.
  How many traces of a length a deterministic system has, counted as both texts count: round for round over the edges, in wrapped numbers.
  The program's ValidMonitor.
  Partitions, plainly: numbers by first sight, and the refinement of the states of a deterministic system.
-/
import Derived.Test.YtjghfgaincnegaaGreatDoorN6
import Derived.Test.YtjghfgaincnegaaGreatDoorProg
import Derived.Test.YtjghfgaincnegaaGreatDoorN1
namespace Go.Proofs.YtjghfgaincnegaaGreatDoor
open Go Go.RowKit

set_option maxRecDepth 100000 in
set_option maxHeartbeats 4000000 in
theorem IsDet_any (lo : Nat) (t : Lts) (lv ev : Value) (w : World) (hsh : Short20 t.labels) (hl : SliceK 1 encS lo w lv t.labels) (he : SliceK 3 encE lo w ev t.edges) (g : Glob w) :
  Calls Tryz.prog 48 #[.agg #[.int .i64 t.states, .int .i64 t.initial, lv, ev]] w (Decides (Valid t ∧ Single t) w) := by
 have HB0 : Hid (Below w.heap.size w (w.alloc (.cells #[.int .i64 t.states, .int .i64 t.initial, lv, ev] 32))) := box_below _ _ _
 by_cases hv : Valid t
 ·have HV := Lib.hid (Valid_yes hv hsh (hl.below HB0.out) (he.below HB0.out) (g.below HB0.out))
  have HVV := Lib.hid hv
  clear hv hsh hl g
  obtain ⟨ae, ce, rfl, hen, hec, her⟩ := he
  have HER := Lib.hid her
  clear her
  go_enter Tryz.func48, Tryz.ntmps48
  go_wp2_with fail
  refine Calls.mono HV.out ?_
  rintro e w1 ⟨rfl, hb1⟩
  have HB1 := Lib.hid (HB0.out.trans (hb1.mono HB0.out.size))
  have q3 : w1.cell? ⟨w.heap.size, 3, none⟩ = some (.slice ae t.edges.length ce) := keeps hb1 (by simp) (by simp)
  have hbz : w.heap.size < w1.heap.size := by have := hb1.size; simp at this; omega
  have HER1 := Lib.hid (HER.out.below HB1.out)
  have Q3 := Lib.hid q3
  clear hb1 HB0 HV HER
  obtain ⟨b0, hb0⟩ : ∃ b0, b0 = w.heap.size := ⟨_, rfl⟩
  rw [← hb0] at hbz Q3 q3
  simp only [← hb0]
  have HB00 := Lib.hid hb0
  clear hb0
  go_wp2_with fail
  clear q3
  go_loopw [11] (fun i wr => ∃ k : Nat, k ≤ t.edges.length ∧ i = .int .i64 k ∧ Below w1.heap.size w1 wr ∧ (∀ q (h : q < t.edges.length), q < k → t.edges[q].lab ≠ 0) ∧ (∀ q (h : q + 1 < t.edges.length), q + 1 < k → ¬ (t.edges[q + 1].src = t.edges[q].src ∧ t.edges[q + 1].lab = t.edges[q].lab))) (fun i _ => t.edges.length - (intOf i).toNat)
  case atStart => exact ⟨0, Nat.zero_le _, rfl, Below.refl _ _, fun _ _ h => by omega, fun _ _ h => by omega⟩
  case round =>
   obtain ⟨k, hk, rfl, hbl, hx1, hx2⟩ := hrel
   have HX1 := Lib.hid hx1
   have HX2 := Lib.hid hx2
   have HBE := Lib.hid hbl
   have hsz := hbl.size
   have q3 := keeps hbl hbz Q3.out
   clear hx1 hx2 hbl
   by_cases hlt : k < t.edges.length
   ·obtain ⟨be, oe, rfl, -, hbe, e1, e2, e3⟩ := (HER1.out.below HBE.out).edge hlt
    have HROW := Lib.hid (HER1.out.below HBE.out)
    obtain ⟨e, hee⟩ : ∃ e, e = t.edges[k] := ⟨_, rfl⟩
    rw [← hee] at e1 e2 e3
    have HEE := Lib.hid hee
    clear hee
    have HO : Below wr.heap.size wr (wr.alloc (.cells #[.int .i64 e.src, .int .i64 e.lab, .int .i64 e.dst] 78)) := box_below _ _ _
    have s3 := later_cell (w0 := wr.alloc (.cells #[.int .i64 e.src, .int .i64 e.lab, .int .i64 e.dst] 78)) (b := b0) (by simp; omega) (keeps HO (by omega) q3)
    have t0 := later_cell (w0 := wr.alloc (.cells #[.int .i64 e.src, .int .i64 e.lab, .int .i64 e.dst] 78)) (b := wr.heap.size) (o := 0) (v := .int .i64 e.src) (by simp) (by simp)
    have t1 := later_cell (w0 := wr.alloc (.cells #[.int .i64 e.src, .int .i64 e.lab, .int .i64 e.dst] 78)) (b := wr.heap.size) (o := 1) (v := .int .i64 e.lab) (by simp) (by simp)
    have HO2 := Lib.hid HO
    have HLT : Hid (Below w1.heap.size w1 (wr.alloc (.cells #[.int .i64 e.src, .int .i64 e.lab, .int .i64 e.dst] 78))) := HBE.out.trans (HO.mono hsz)
    cases g1 : (e.lab == 0)
    ·have HG1 : Hid (t.edges[k].lab ≠ 0) := by unfold Hid; rw [← HEE.out]; simpa using g1
     rcases Nat.eq_zero_or_pos k with hk0 | hk0
     ·have hk1 : decide ((0 : Int) < (k : Int)) = false := by rw [decide_eq_false_iff_not]; omega
      have hk2 : decide (0 < k) = false := by rw [decide_eq_false_iff_not]; omega
      have hk3 : ¬ (0 : Int) < (k : Int) := by omega
      have hk4 : ¬ 0 < k := by omega
      have HK0 : Hid (k = 0) := hk0
      clear hk0 HO
      go_wp2_with fail
      refine wp_region_later (by kernel_rfl) (by kernel_rfl) ?_
      repeat (go_big_quiet_step ((fail)))
      refine wpQuiet_nil ?_
      intro _ hw9
      obtain ⟨nl, hw8⟩ := hw9
      subst hw8
      clear g1 t0 t1 s3
      go_wp2_with fail
      go_roundw
      case rel => exact ⟨k + 1, by omega, by go_num, HLT.out.trans (nl.h.mono HLT.out.size), fun q h h' => by
        obtain rfl : q = k := by have := HK0.out; omega
        exact HG1.out, fun q h h' => by
        have := HK0.out; omega⟩
      case measure => simp [intOf]; omega
     ·obtain ⟨m, rfl⟩ : ∃ m, k = m + 1 := ⟨k - 1, by omega⟩
      obtain ⟨_, _, e9, -, -, d1, d2, -⟩ := HROW.out.edge (show m < t.edges.length by omega)
      simp only [Option.some.injEq, Addr.mk.injEq, and_true] at e9
      obtain ⟨rfl, rfl⟩ := e9
      replace d1 := later_cell (w0 := wr.alloc (.cells #[.int .i64 e.src, .int .i64 e.lab, .int .i64 e.dst] 78)) (b := be) (by simp; omega) (keeps HO hbe d1)
      replace d2 := later_cell (w0 := wr.alloc (.cells #[.int .i64 e.src, .int .i64 e.lab, .int .i64 e.dst] 78)) (b := be) (by simp; omega) (keeps HO hbe d2)
      have hk1 : decide ((0 : Int) < (m : Int) + 1) = true := by rw [decide_eq_true_eq]; omega
      have hk2 : (0 : Int) < (m : Int) + 1 := by omega
      clear hk0 HO
      cases g2 : (t.edges[m].src == e.src)
      ·have HG2 : Hid (¬ t.edges[m + 1].src = t.edges[m].src) := by unfold Hid; rw [← HEE.out]; rw [beq_eq_false_iff_ne] at g2; exact fun h => g2 h.symm
       go_wp2_with fail
       refine wp_region_later (by kernel_rfl) (by kernel_rfl) ?_
       repeat (go_big_quiet_step ((fail)))
       refine wpQuiet_nil ?_
       intro _ hw9
       obtain ⟨nl, hw8⟩ := hw9
       subst hw8
       clear g1 t0 t1 s3
       go_wp2_with fail
       go_roundw
       case rel => exact ⟨m + 1 + 1, by omega, by go_num, HLT.out.trans (nl.h.mono HLT.out.size), fun q h h' => by
         by_cases e9 : q = m + 1
         ·subst e9; exact HG1.out
         ·exact HX1.out q h (by omega), fun q h h' => by
         by_cases e9 : q = m
         ·subst e9; exact fun h => HG2.out h.1
         ·exact HX2.out q h (by omega)⟩
       case measure => simp [intOf]; omega
      ·have HG2 : Hid (t.edges[m + 1].src = t.edges[m].src) := by unfold Hid; rw [← HEE.out]; rw [beq_iff_eq] at g2; exact g2.symm
       cases g3 : (t.edges[m].lab == e.lab)
       ·have HG3 : Hid (¬ t.edges[m + 1].lab = t.edges[m].lab) := by unfold Hid; rw [← HEE.out]; rw [beq_eq_false_iff_ne] at g3; exact fun h => g3 h.symm
        go_wp2_with fail
        refine wp_region_later (by kernel_rfl) (by kernel_rfl) ?_
        repeat (go_big_quiet_step ((fail)))
        refine wpQuiet_nil ?_
        intro _ hw9
        obtain ⟨nl, hw8⟩ := hw9
        subst hw8
        clear g1 t0 t1 s3
        go_wp2_with fail
        go_roundw
        case rel => exact ⟨m + 1 + 1, by omega, by go_num, HLT.out.trans (nl.h.mono HLT.out.size), fun q h h' => by
          by_cases e9 : q = m + 1
          ·subst e9; exact HG1.out
          ·exact HX1.out q h (by omega), fun q h h' => by
          by_cases e9 : q = m
          ·subst e9; exact fun h => HG3.out h.2
          ·exact HX2.out q h (by omega)⟩
        case measure => simp [intOf]; omega
       ·have HG3 : Hid (t.edges[m + 1].lab = t.edges[m].lab) := by unfold Hid; rw [← HEE.out]; rw [beq_iff_eq] at g3; exact g3.symm
        go_wp2_with fail
        refine wp_region_later (by kernel_rfl) (by kernel_rfl) ?_
        repeat (go_big_quiet_step ((fail)))
        refine wpQuiet_nil ?_
        intro _ hw9
        obtain ⟨nl, hw8⟩ := hw9
        subst hw8
        go_wp2_with fail
        go_ret
        refine ⟨false, rfl, ⟨(fun h => by cases h), fun h => ?_⟩, HB1.out.trans ((HLT.out.trans (nl.h.mono HLT.out.size)).mono HB1.out.size)⟩
        exact absurd ⟨HG2.out, HG3.out⟩ (h.2.one m hlt)
    ·have HG1 : Hid (t.edges[k].lab = 0) := by unfold Hid; rw [← HEE.out]; simpa using g1
     clear HO
     go_wp2_with fail
     refine wp_region_later (by kernel_rfl) (by kernel_rfl) ?_
     repeat (go_big_quiet_step ((fail)))
     refine wpQuiet_nil ?_
     intro _ hw9
     obtain ⟨nl, hw8⟩ := hw9
     subst hw8
     go_wp2_with fail
     go_ret
     refine ⟨false, rfl, ⟨(fun h => by cases h), fun h => ?_⟩, HB1.out.trans ((HLT.out.trans (nl.h.mono HLT.out.size)).mono HB1.out.size)⟩
     exact absurd HG1.out (h.2.visible k hlt)
   ·go_wp2_with fail
    go_ret
    exact ⟨true, rfl, ⟨fun _ => ⟨HVV.out, fun q h => HX1.out q h (by omega), fun q h => HX2.out q h (by omega)⟩, fun _ => rfl⟩, HB1.out.trans (HBE.out.mono HB1.out.size)⟩
 ·have HV := Lib.hid (Valid_no hv hsh (hl.below HB0.out) (he.below HB0.out) (g.below HB0.out))
  have HVV := Lib.hid hv
  clear hv hsh hl he g
  go_enter Tryz.func48, Tryz.ntmps48
  go_wp2_with fail
  refine Calls.mono HV.out ?_
  rintro e w1 ⟨rfl, hb1⟩
  have HB1 := Lib.hid (HB0.out.trans (hb1.mono HB0.out.size))
  clear hb1
  go_wp2_with fail
  go_ret
  exact ⟨false, rfl, ⟨(fun h => by cases h), fun h => absurd h.1 HVV.out⟩, HB1.out⟩

end Go.Proofs.YtjghfgaincnegaaGreatDoor

namespace Go.Proofs.YtjghfgaincnegaaGreatDoor
open Go Go.RowKit

def idxE (P : Edge → Bool) (xs : List Edge) : Int := if xs.findIdx P < xs.length then (xs.findIdx P : Nat) else -1
theorem idxE_neg {P : Edge → Bool} {xs : List Edge} : idxE P xs = -1 ↔ ∀ x ∈ xs, P x = false := by
 unfold idxE
 by_cases h : xs.findIdx P < xs.length
 ·rw [if_pos h]
  refine ⟨fun e => by omega, fun h2 => ?_⟩
  obtain ⟨x, hx, hp⟩ := List.findIdx_lt_length.1 h
  rw [h2 x hx] at hp
  cases hp
 ·rw [if_neg h]
  refine ⟨fun _ x hx => ?_, fun _ => rfl⟩
  cases hp : P x
  ·rfl
  ·exact absurd (List.findIdx_lt_length.2 ⟨x, hx, hp⟩) h
theorem idxE_any {P : Edge → Bool} {xs : List Edge} : decide (0 ≤ idxE P xs) = xs.any P := by
 unfold idxE
 by_cases h : xs.findIdx P < xs.length
 ·rw [if_pos h]
  obtain ⟨x, hx, hp⟩ := List.findIdx_lt_length.1 h
  rw [List.any_eq_true.2 ⟨x, hx, hp⟩]
  simp
 ·rw [if_neg h]
  have : xs.any P = false := by
   rw [List.any_eq_false]
   intro x hx hp
   exact h (List.findIdx_lt_length.2 ⟨x, hx, hp⟩)
  rw [this]
  rfl
/-- A function of one element that answers P, and turns nothing that was there. -/
def AskE (fid : Nat) (caps : Array Value) (P : Edge → Bool) (xs : List Edge) (B : Nat) (w : World) : Prop :=
 ∀ w', Below B w w' → ∀ x ∈ xs, Calls Tryz.prog fid (#[.agg #[.int .i64 x.src, .int .i64 x.lab, .int .i64 x.dst]] ++ caps) w' fun e w'' => e = .returned (.bool (P x)) ∧ Below w'.heap.size w' w''

set_option maxRecDepth 100000 in
set_option maxHeartbeats 1000000 in
theorem IndexFuncE (lo : Nat) (v : Value) (xs : List Edge) (fid : Nat) (caps : Array Value) (P : Edge → Bool) (w : World) (hv : SliceK 3 encE lo w v xs) (eg : ∀ args w, (callFunc fid args).run Tryz.prog w = .ok (.enter fid args) w) (hP : AskE fid caps P xs w.heap.size w) :
  Calls Tryz.prog 90 #[v, .func (.func fid) #[] caps] w fun e w' => e = .returned (.int .i64 (idxE P xs)) ∧ Below w.heap.size w w' := by
 obtain ⟨a, c, rfl, hcn, hcc, hrow⟩ := hv
 have HR := Lib.hid hrow
 have HP := Lib.hid hP
 clear hP hrow
 go_enter Tryz.func90, Tryz.ntmps90
 go_wp2_with fail
 go_loopw [8] (fun i wr => ∃ k : Nat, k ≤ xs.length ∧ i = .int .i64 k ∧ Below w.heap.size w wr ∧ ∀ j (h : j < xs.length), j < k → P xs[j] = false) (fun i _ => xs.length - (intOf i).toNat)
 case atStart => exact ⟨0, Nat.zero_le _, rfl, Below.refl _ _, fun _ _ h => by omega⟩
 case round =>
  obtain ⟨k, hk, rfl, hbl, ha⟩ := hrel
  have HA := Lib.hid ha
  have HBL := Lib.hid hbl
  clear ha
  by_cases hlt : k < xs.length
  ·obtain ⟨b1, o1, rfl, -, hbs, c1, c2, c3⟩ := (HR.out.below hbl).edge hlt
   clear hbl
   obtain ⟨x, hx⟩ : ∃ x, x = xs[k] := ⟨_, rfl⟩
   rw [← hx] at c1 c2 c3
   have HX := Lib.hid hx
   have HC := Lib.hid (HP.out wr HBL.out x (by rw [hx]; exact List.getElem_mem _))
   obtain ⟨b, hb⟩ : ∃ b, b = P x := ⟨_, rfl⟩
   rw [← hb] at HC
   have HB := Lib.hid hb
   clear hb hx
   go_wp2_with fail
   refine Calls.mono HC.out ?_
   rintro e w1 ⟨rfl, hb1⟩
   have HB1 := Lib.hid (HBL.out.trans (hb1.mono HBL.out.size))
   clear hb1 c1 c2 c3
   cases b
   ·go_wp2_with fail
    go_roundw
    case rel => exact ⟨k + 1, by omega, by go_num, HB1.out, fun j h hj => by
     by_cases e : j = k
     ·subst e; rw [← HX.out]; exact HB.out.symm
     ·exact HA.out j h (by omega)⟩
    case measure => simp [intOf]; omega
   ·have HI : Hid (idxE P xs = (k : Int)) := by
     unfold Hid idxE
     have h1 : xs.findIdx P = k := by
      rw [List.findIdx_eq hlt]
      exact ⟨by rw [← HX.out]; exact HB.out.symm, fun j hj => HA.out j (by omega) hj⟩
     rw [h1, if_pos hlt]
    go_wp2_with fail
    go_ret
    exact ⟨ret_int HI.out.symm, HB1.out⟩
  ·clear hbl
   have HI : Hid (idxE P xs = -1) := by
    unfold Hid
    rw [idxE_neg]
    intro x hx
    obtain ⟨j, hj, rfl⟩ := List.mem_iff_getElem.1 hx
    exact HA.out j hj (by omega)
   go_wp2_with fail
   go_ret
   exact ⟨ret_int HI.out.symm, HBL.out⟩

theorem ContainsFuncE (lo : Nat) (v : Value) (xs : List Edge) (fid : Nat) (caps : Array Value) (P : Edge → Bool) (w : World) (hv : SliceK 3 encE lo w v xs) (eg : ∀ args w, (callFunc fid args).run Tryz.prog w = .ok (.enter fid args) w) (hP : AskE fid caps P xs w.heap.size w) :
  Calls Tryz.prog 52 #[v, .func (.func fid) #[] caps] w fun e w' => e = .returned (.bool (xs.any P)) ∧ Below w.heap.size w w' := by
 have HC := Lib.hid (IndexFuncE lo v xs fid caps P w hv eg hP)
 clear hP
 go_enter Tryz.func52, Tryz.ntmps52
 go_wp2_with fail
 refine Calls.mono HC.out ?_
 rintro e w' ⟨rfl, hb⟩
 have HB := Lib.hid hb
 clear hb
 go_wp2_with fail
 go_ret
 exact ⟨ret_bool idxE_any, HB.out⟩

end Go.Proofs.YtjghfgaincnegaaGreatDoor

namespace Go.Proofs.YtjghfgaincnegaaGreatDoor
open Go Go.RowKit

def idxI (P : Int → Bool) (xs : List Int) : Int := if xs.findIdx P < xs.length then (xs.findIdx P : Nat) else -1
theorem idxI_neg {P : Int → Bool} {xs : List Int} : idxI P xs = -1 ↔ ∀ x ∈ xs, P x = false := by
 unfold idxI
 by_cases h : xs.findIdx P < xs.length
 ·rw [if_pos h]
  refine ⟨fun e => by omega, fun h2 => ?_⟩
  obtain ⟨x, hx, hp⟩ := List.findIdx_lt_length.1 h
  rw [h2 x hx] at hp
  cases hp
 ·rw [if_neg h]
  refine ⟨fun _ x hx => ?_, fun _ => rfl⟩
  cases hp : P x
  ·rfl
  ·exact absurd (List.findIdx_lt_length.2 ⟨x, hx, hp⟩) h
theorem idxI_any {P : Int → Bool} {xs : List Int} : decide (0 ≤ idxI P xs) = xs.any P := by
 unfold idxI
 by_cases h : xs.findIdx P < xs.length
 ·rw [if_pos h]
  obtain ⟨x, hx, hp⟩ := List.findIdx_lt_length.1 h
  rw [List.any_eq_true.2 ⟨x, hx, hp⟩]
  simp
 ·rw [if_neg h]
  have : xs.any P = false := by
   rw [List.any_eq_false]
   intro x hx hp
   exact h (List.findIdx_lt_length.2 ⟨x, hx, hp⟩)
  rw [this]
  rfl
/-- A function of one element that answers P, and turns nothing that was there. -/
def AskI (fid : Nat) (caps : Array Value) (P : Int → Bool) (xs : List Int) (B : Nat) (w : World) : Prop :=
 ∀ w', Below B w w' → ∀ x ∈ xs, Calls Tryz.prog fid (#[.int .i64 x] ++ caps) w' fun e w'' => e = .returned (.bool (P x)) ∧ Below w'.heap.size w' w''

set_option maxRecDepth 100000 in
set_option maxHeartbeats 1000000 in
theorem IndexFuncI (lo : Nat) (v : Value) (xs : List Int) (fid : Nat) (caps : Array Value) (P : Int → Bool) (w : World) (hv : SliceK 1 encI lo w v xs) (eg : ∀ args w, (callFunc fid args).run Tryz.prog w = .ok (.enter fid args) w) (hP : AskI fid caps P xs w.heap.size w) :
  Calls Tryz.prog 89 #[v, .func (.func fid) #[] caps] w fun e w' => e = .returned (.int .i64 (idxI P xs)) ∧ Below w.heap.size w w' := by
 obtain ⟨a, c, rfl, hcn, hcc, hrow⟩ := hv
 have HR := Lib.hid hrow
 have HP := Lib.hid hP
 clear hP hrow
 go_enter Tryz.func89, Tryz.ntmps89
 go_wp2_with fail
 go_loopw [8] (fun i wr => ∃ k : Nat, k ≤ xs.length ∧ i = .int .i64 k ∧ Below w.heap.size w wr ∧ ∀ j (h : j < xs.length), j < k → P xs[j] = false) (fun i _ => xs.length - (intOf i).toNat)
 case atStart => exact ⟨0, Nat.zero_le _, rfl, Below.refl _ _, fun _ _ h => by omega⟩
 case round =>
  obtain ⟨k, hk, rfl, hbl, ha⟩ := hrel
  have HA := Lib.hid ha
  have HBL := Lib.hid hbl
  clear ha
  by_cases hlt : k < xs.length
  ·obtain ⟨b1, o1, rfl, -, hbs, c1⟩ := (HR.out.below hbl).one hlt
   simp only [encI, List.getElem?_cons_zero] at c1
   clear hbl
   obtain ⟨x, hx⟩ : ∃ x, x = xs[k] := ⟨_, rfl⟩
   rw [← hx] at c1
   have HX := Lib.hid hx
   have HC := Lib.hid (HP.out wr HBL.out x (by rw [hx]; exact List.getElem_mem _))
   obtain ⟨b, hb⟩ : ∃ b, b = P x := ⟨_, rfl⟩
   rw [← hb] at HC
   have HB := Lib.hid hb
   clear hb hx
   go_wp2_with fail
   refine Calls.mono HC.out ?_
   rintro e w1 ⟨rfl, hb1⟩
   have HB1 := Lib.hid (HBL.out.trans (hb1.mono HBL.out.size))
   clear hb1 c1
   cases b
   ·go_wp2_with fail
    go_roundw
    case rel => exact ⟨k + 1, by omega, by go_num, HB1.out, fun j h hj => by
     by_cases e : j = k
     ·subst e; rw [← HX.out]; exact HB.out.symm
     ·exact HA.out j h (by omega)⟩
    case measure => simp [intOf]; omega
   ·have HI : Hid (idxI P xs = (k : Int)) := by
     unfold Hid idxI
     have h1 : xs.findIdx P = k := by
      rw [List.findIdx_eq hlt]
      exact ⟨by rw [← HX.out]; exact HB.out.symm, fun j hj => HA.out j (by omega) hj⟩
     rw [h1, if_pos hlt]
    go_wp2_with fail
    go_ret
    exact ⟨ret_int HI.out.symm, HB1.out⟩
  ·clear hbl
   have HI : Hid (idxI P xs = -1) := by
    unfold Hid
    rw [idxI_neg]
    intro x hx
    obtain ⟨j, hj, rfl⟩ := List.mem_iff_getElem.1 hx
    exact HA.out j hj (by omega)
   go_wp2_with fail
   go_ret
   exact ⟨ret_int HI.out.symm, HBL.out⟩

theorem ContainsFuncI (lo : Nat) (v : Value) (xs : List Int) (fid : Nat) (caps : Array Value) (P : Int → Bool) (w : World) (hv : SliceK 1 encI lo w v xs) (eg : ∀ args w, (callFunc fid args).run Tryz.prog w = .ok (.enter fid args) w) (hP : AskI fid caps P xs w.heap.size w) :
  Calls Tryz.prog 49 #[v, .func (.func fid) #[] caps] w fun e w' => e = .returned (.bool (xs.any P)) ∧ Below w.heap.size w w' := by
 have HC := Lib.hid (IndexFuncI lo v xs fid caps P w hv eg hP)
 clear hP
 go_enter Tryz.func49, Tryz.ntmps49
 go_wp2_with fail
 refine Calls.mono HC.out ?_
 rintro e w' ⟨rfl, hb⟩
 have HB := Lib.hid hb
 clear hb
 go_wp2_with fail
 go_ret
 exact ⟨ret_bool idxI_any, HB.out⟩

end Go.Proofs.YtjghfgaincnegaaGreatDoor

namespace Go.Proofs.YtjghfgaincnegaaGreatDoor
open Go Go.RowKit

/-- Numbers below n, no two the same: at most n. -/
theorem nodup_lt : ∀ (n : Nat) (l : List Nat), l.Nodup → (∀ x ∈ l, x < n) → l.length ≤ n
 | 0, l, _, h => by
  cases l with
  | nil => simp
  | cons a r => exact absurd (h a (by simp)) (by omega)
 | n + 1, l, hd, h => by
  have h1 := nodup_lt n (l.filter fun x => x != n) (hd.filter _) (fun x hx => by
   rw [List.mem_filter] at hx
   have := h x hx.1
   have h2 : x ≠ n := by simpa using hx.2
   omega)
  have h2 : l.length ≤ (l.filter fun x => x != n).length + 1 := by
   clear h1 h
   induction l with
   | nil => simp
   | cons a r ih =>
    rw [List.nodup_cons] at hd
    by_cases e : a = n
    ·subst e
     have : r.filter (fun x => x != a) = r := by
      rw [List.filter_eq_self]
      intro x hx
      have : x ≠ a := fun e => hd.1 (e ▸ hx)
      simpa using this
     simp [this]
    ·have := ih hd.2
     simp [e]
     omega
  omega

/-! The search over triples, edge for edge: how far it has come, and what holds there. Plain laws. -/

section
variable {p s r : Lts} {ctl : ByteArray → Bool}

end


end Go.Proofs.YtjghfgaincnegaaGreatDoor

namespace Go.Proofs.YtjghfgaincnegaaGreatDoor
open Go Go.RowKit

/-- A list that has just the members P, ascending. -/
structure IsSet (P : Int → Prop) (l : List Int) : Prop where
 mem : ∀ x, x ∈ l ↔ P x
 asc : l.Pairwise (· < ·)

theorem asc_unique : ∀ (l m : List Int), l.Pairwise (· < ·) → m.Pairwise (· < ·) → (∀ x, x ∈ l ↔ x ∈ m) → l = m
 | [], [], _, _, _ => rfl
 | [], b :: m, _, _, h => by have := (h b).2 (by simp); simp at this
 | a :: l, [], _, _, h => by have := (h a).1 (by simp); simp at this
 | a :: l, b :: m, hl, hm, h => by
  rw [List.pairwise_cons] at hl hm
  have e : a = b := by
   have h1 := (h a).1 (by simp)
   have h2 := (h b).2 (by simp)
   rw [List.mem_cons] at h1 h2
   rcases h1 with h1 | h1
   ·exact h1
   ·rcases h2 with h2 | h2
    ·exact h2.symm
    ·have := hm.1 a h1
     have := hl.1 b h2
     omega
  subst e
  rw [asc_unique l m hl.2 hm.2 fun x => ?_]
  constructor
  ·intro hx
   have h1 := (h x).1 (by simp [hx])
   rw [List.mem_cons] at h1
   rcases h1 with h1 | h1
   ·have := hl.1 x hx; omega
   ·exact h1
  ·intro hx
   have h1 := (h x).2 (by simp [hx])
   rw [List.mem_cons] at h1
   rcases h1 with h1 | h1
   ·have := hm.1 x hx; omega
   ·exact h1
theorem IsSet.unique {P : Int → Prop} {l m : List Int} (hl : IsSet P l) (hm : IsSet P m) : l = m :=
 asc_unique l m hl.asc hm.asc fun x => (hl.mem x).trans (hm.mem x).symm
theorem IsSet.congr {P Q : Int → Prop} {l : List Int} (hl : IsSet P l) (h : ∀ x, P x ↔ Q x) : IsSet Q l := ⟨fun x => (hl.mem x).trans (h x), hl.asc⟩

noncomputable section
/-- The numbers below n with P, ascending. -/
def setL (n : Int) (P : Int → Prop) : List Int := ((List.range n.toNat).map fun (i : Nat) => (i : Int)).filter fun x => @decide (P x) (Classical.propDecidable _)
theorem setL_is {n : Int} {P : Int → Prop} (h : ∀ x, P x → 0 ≤ x ∧ x < n) : IsSet P (setL n P) where
 mem x := by
  unfold setL
  rw [List.mem_filter, List.mem_map]
  constructor
  ·intro hx
   exact @of_decide_eq_true _ (Classical.propDecidable _) hx.2
  ·intro hx
   have := h x hx
   exact ⟨⟨x.toNat, List.mem_range.2 (by omega), by omega⟩, @decide_eq_true _ (Classical.propDecidable _) hx⟩
 asc := by
  unfold setL
  refine List.Pairwise.filter _ ?_
  rw [List.pairwise_map]
  exact List.Pairwise.imp (fun h => by omega) List.pairwise_lt_range
end

/-- Internal edges lead from a to b. -/
inductive TauStar (t : Lts) (a : Int) : Int → Prop
 | refl : TauStar t a a
 | step {b : Int} (h : TauStar t a b) (e : Edge) (he : e ∈ t.edges) (hl : e.lab = 0) (hs : e.src = b) : TauStar t a e.dst
/-- What internal edges reach from S. -/
def clos (t : Lts) (S : Int → Prop) (x : Int) : Prop := ∃ a, S a ∧ TauStar t a x
theorem clos.base {t : Lts} {S : Int → Prop} {x : Int} (h : S x) : clos t S x := ⟨x, h, .refl⟩
theorem clos.next {t : Lts} {S : Int → Prop} {e : Edge} (h : clos t S e.src) (he : e ∈ t.edges) (hl : e.lab = 0) : clos t S e.dst := by
 obtain ⟨a, ha, hs⟩ := h
 exact ⟨a, ha, .step hs e he hl rfl⟩
theorem clos.least {t : Lts} {S Q : Int → Prop} (h1 : ∀ x, S x → Q x) (h2 : ∀ e ∈ t.edges, e.lab = 0 → Q e.src → Q e.dst) {x : Int} (h : clos t S x) : Q x := by
 obtain ⟨a, ha, hs⟩ := h
 induction hs with
 | refl => exact h1 a ha
 | step _ e he hl hs ih => exact h2 e he hl (hs ▸ ih)
theorem clos.inside {t : Lts} (hv : Valid t) {S : Int → Prop} (h : ∀ x, S x → 0 ≤ x ∧ x < t.states) (x : Int) (hx : clos t S x) : 0 ≤ x ∧ x < t.states :=
 hx.least (Q := fun x => 0 ≤ x ∧ x < t.states) h fun e he _ _ => by
  obtain ⟨i, hi, rfl⟩ := List.mem_iff_getElem.1 he
  have := hv.edge i hi
  exact ⟨this.d0, this.d1⟩

/-- Behind a label's number k, from the states in l. -/
def behindP (t : Lts) (l : List Int) (k : Int) (x : Int) : Prop := ∃ e ∈ t.edges, e.lab = k ∧ e.src ∈ l ∧ e.dst = x
theorem behindP_in {t : Lts} (hv : Valid t) {l : List Int} {k x : Int} (h : behindP t l k x) : 0 ≤ x ∧ x < t.states := by
 obtain ⟨e, he, -, -, rfl⟩ := h
 obtain ⟨i, hi, rfl⟩ := List.mem_iff_getElem.1 he
 exact ⟨(hv.edge i hi).d0, (hv.edge i hi).d1⟩
def firstP (t : Lts) : Int → Prop := clos t fun x => x = t.initial
def nextP (t : Lts) (l : List Int) (k : Int) : Int → Prop := clos t (behindP t l k)

noncomputable section
def firstS (t : Lts) : List Int := setL t.states (firstP t)
def nextS (t : Lts) (l : List Int) (k : Int) : List Int := setL t.states (nextP t l k)
theorem firstS_is {t : Lts} (hv : Valid t) : IsSet (firstP t) (firstS t) := setL_is (clos.inside hv fun x hx => by subst hx; exact ⟨hv.in0, hv.in1⟩)
theorem nextS_is {t : Lts} (hv : Valid t) (l : List Int) (k : Int) : IsSet (nextP t l k) (nextS t l k) := setL_is (clos.inside hv fun _ hx => behindP_in hv hx)

structure DNet where
 rows : List (List Int)
 edges : List Edge

def dplace (rows : List (List Int)) (r : List Int) : Nat := rows.findIdx fun q => q == r
def dadd (rows : List (List Int)) (r : List Int) : List (List Int) := if dplace rows r < rows.length then rows else rows ++ [r]
/-- One label (its number k) of the row number i. -/
def dstep (t : Lts) (i : Nat) (cur : List Int) (st : DNet) (k : Nat) : DNet :=
 if nextS t cur (k + 1) = [] then st else ⟨dadd st.rows (nextS t cur (k + 1)), st.edges ++ [⟨(i : Int), (k : Int) + 1, (dplace st.rows (nextS t cur (k + 1)) : Int)⟩]⟩
/-- The first j labels behind tau. -/
def dmid (t : Lts) (i : Nat) (cur : List Int) (st : DNet) (j : Nat) : DNet := (List.range j).foldl (dstep t i cur) st
def drow (t : Lts) (i : Nat) (st : DNet) : DNet :=
 match st.rows[i]? with
 | none => st
 | some cur => dmid t i cur st (t.labels.length - 1)
def dAt (t : Lts) : Nat → DNet
 | 0 => ⟨[firstS t], []⟩
 | n + 1 => drow t n (dAt t n)
end

def DSmall (st : DNet) : Prop := st.rows.length ≤ 40 ∧ st.edges.length ≤ 300
/-- A net within another one. -/
structure DLe (a b : DNet) : Prop where
 rows : ∃ r, b.rows = a.rows ++ r
 edges : ∃ r, b.edges = a.edges ++ r
theorem DLe.refl (a : DNet) : DLe a a := ⟨⟨[], by simp⟩, ⟨[], by simp⟩⟩
theorem DLe.trans {a b c : DNet} (h : DLe a b) (k : DLe b c) : DLe a c := by
 obtain ⟨⟨r, h1⟩, ⟨s, h2⟩⟩ := h
 obtain ⟨⟨u, h3⟩, ⟨v, h4⟩⟩ := k
 exact ⟨⟨r ++ u, by rw [h3, h1, List.append_assoc]⟩, ⟨s ++ v, by rw [h4, h2, List.append_assoc]⟩⟩
theorem DLe.small {a b : DNet} (h : DLe a b) (hb : DSmall b) : DSmall a := by
 obtain ⟨⟨r, h1⟩, ⟨s, h2⟩⟩ := h
 unfold DSmall at *
 rw [h1, h2, List.length_append, List.length_append] at hb
 omega
theorem dstep_le (t : Lts) (i : Nat) (cur : List Int) (st : DNet) (k : Nat) : DLe st (dstep t i cur st k) := by
 unfold dstep
 split
 ·exact DLe.refl st
 ·refine ⟨?_, ⟨_, rfl⟩⟩
  unfold dadd
  split
  ·exact ⟨[], by simp⟩
  ·exact ⟨_, rfl⟩
theorem dmid_succ (t : Lts) (i : Nat) (cur : List Int) (st : DNet) (j : Nat) : dmid t i cur st (j + 1) = dstep t i cur (dmid t i cur st j) j := by
 unfold dmid
 rw [List.range_succ, List.foldl_append]
 rfl
theorem dmid_le (t : Lts) (i : Nat) (cur : List Int) (st : DNet) (j : Nat) : ∀ d, DLe (dmid t i cur st j) (dmid t i cur st (j + d))
 | 0 => DLe.refl _
 | d + 1 => by
  rw [← Nat.add_assoc, dmid_succ]
  exact (dmid_le t i cur st j d).trans (dstep_le t i cur _ _)
theorem dplace_lt {rows : List (List Int)} {q : List Int} : dplace rows q < rows.length ↔ q ∈ rows := by
 unfold dplace
 rw [List.findIdx_lt_length]
 simp
theorem dplace_le (rows : List (List Int)) (q : List Int) : dplace rows q ≤ rows.length := by unfold dplace; exact List.findIdx_le_length

end Go.Proofs.YtjghfgaincnegaaGreatDoor

namespace Go.Proofs.YtjghfgaincnegaaGreatDoor
open Go Go.RowKit

theorem dadd_nodup {rows : List (List Int)} {r : List Int} (h : rows.Nodup) : (dadd rows r).Nodup := by
 unfold dadd
 split
 ·exact h
 ·next hn =>
  rw [List.nodup_append]
  refine ⟨h, by simp, ?_⟩
  intro a ha b hb e
  rw [List.mem_singleton] at hb
  subst hb
  subst e
  exact hn (dplace_lt.2 ha)

/-- What holds of the net at each point. -/
structure DGood (t : Lts) (st : DNet) : Prop where
 nodup : st.rows.Nodup
 some : 0 < st.rows.length
 rows : ∀ r ∈ st.rows, (∀ x ∈ r, 0 ≤ x ∧ x < t.states) ∧ r.Pairwise (· < ·) ∧ r ≠ []
 edges : ∀ e ∈ st.edges, (0 ≤ e.src ∧ e.src < st.rows.length) ∧ (1 ≤ e.lab ∧ e.lab < t.labels.length) ∧ 0 ≤ e.dst ∧ e.dst < st.rows.length

theorem dadd_len (rows : List (List Int)) (r : List Int) : rows.length ≤ (dadd rows r).length ∧ dplace rows r < (dadd rows r).length := by
 unfold dadd
 have := dplace_le rows r
 split
 ·omega
 ·simp; omega
theorem mem_dadd {rows : List (List Int)} {r q : List Int} (h : q ∈ dadd rows r) : q ∈ rows ∨ q = r := by
 unfold dadd at h
 split at h
 ·exact .inl h
 ·rcases List.mem_append.1 h with h | h
  ·exact .inl h
  ·exact .inr (by simpa using h)

theorem DGood.step {t : Lts} (hv : Valid t) {st : DNet} (h : DGood t st) {i : Nat} (hi : i < st.rows.length) (cur : List Int) {k : Nat} (hk : k < t.labels.length - 1) : DGood t (dstep t i cur st k) := by
 unfold dstep
 split
 ·exact h
 ·next hne =>
  have hl := dadd_len st.rows (nextS t cur (k + 1))
  have hs := nextS_is hv cur ((k : Int) + 1)
  refine ⟨dadd_nodup h.nodup, ?_, ?_, ?_⟩
  ·show 0 < (dadd st.rows (nextS t cur (k + 1))).length
   omega
  ·intro r hr
   rcases mem_dadd hr with hr | rfl
   ·exact h.rows r hr
   ·exact ⟨fun x hx => clos.inside hv (fun y hy => behindP_in hv hy) x ((hs.mem x).1 hx), hs.asc, hne⟩
  ·intro e he
   rcases List.mem_append.1 he with he | he
   ·have := h.edges e he
    exact ⟨⟨this.1.1, by have := this.1.2; show e.src < (((dadd st.rows (nextS t cur (k + 1))).length : Nat) : Int); omega⟩, this.2.1, this.2.2.1, by have := this.2.2.2; show e.dst < (((dadd st.rows (nextS t cur (k + 1))).length : Nat) : Int); omega⟩
   ·rw [List.mem_singleton] at he
    subst he
    refine ⟨⟨by simp, ?_⟩, ⟨by show (1 : Int) ≤ (k : Int) + 1; omega, ?_⟩, by simp, ?_⟩
    ·show (i : Int) < (((dadd st.rows (nextS t cur (k + 1))).length : Nat) : Int)
     omega
    ·show (k : Int) + 1 < (t.labels.length : Int)
     omega
    ·show ((dplace st.rows (nextS t cur (k + 1)) : Nat) : Int) < (((dadd st.rows (nextS t cur (k + 1))).length : Nat) : Int)
     omega
theorem dmid_zero (t : Lts) (i : Nat) (cur : List Int) (st : DNet) : dmid t i cur st 0 = st := rfl
theorem DGood.mid {t : Lts} (hv : Valid t) {st : DNet} (h : DGood t st) {i : Nat} (hi : i < st.rows.length) (cur : List Int) : ∀ j, j ≤ t.labels.length - 1 → DGood t (dmid t i cur st j)
 | 0, _ => by rw [dmid_zero]; exact h
 | j + 1, hj => by
  rw [dmid_succ]
  refine (DGood.mid hv h hi cur j (by omega)).step hv ?_ cur (by omega)
  obtain ⟨⟨r, hr⟩, -⟩ := dmid_le t i cur st 0 j
  rw [Nat.zero_add, dmid_zero] at hr
  rw [hr, List.length_append]
  omega
theorem DGood.start {t : Lts} (hv : Valid t) : DGood t (dAt t 0) := by
 have hs := firstS_is hv
 refine ⟨by simp [dAt], by simp [dAt], ?_, by simp [dAt]⟩
 intro r hr
 simp only [dAt, List.mem_singleton] at hr
 subst hr
 refine ⟨fun x hx => clos.inside hv (fun y hy => ?_) x ((hs.mem x).1 hx), hs.asc, fun e => ?_⟩
 ·subst hy
  exact ⟨hv.in0, hv.in1⟩
 ·have := (hs.mem t.initial).2 (clos.base rfl)
  rw [e] at this
  simp at this
theorem DGood.at {t : Lts} (hv : Valid t) : ∀ n, DGood t (dAt t n)
 | 0 => DGood.start hv
 | n + 1 => by
  rw [dAt]
  unfold drow
  split
  ·exact DGood.at hv n
  ·next cur hc => exact (DGood.at hv n).mid hv (List.getElem?_eq_some_iff.1 hc).1 cur _ (Nat.le_refl _)

end Go.Proofs.YtjghfgaincnegaaGreatDoor

namespace Go.Proofs.YtjghfgaincnegaaGreatDoor
open Go Go.RowKit

/-- A number's cell of a list. -/
theorem cell_num {w : World} {base e g n cap : Nat} {c : List Int} (h : w.ownsRow base e 1 (.slice (some ⟨g, 0, none⟩) n cap) n (c.map (Value.int .i64))) {i : Nat} (hi : i < n) : w.cell? ⟨g, i, none⟩ = some (.int .i64 (c.getD i 0)) := by
 have h1 := h.cellAt i (by omega)
 have hl : c.length = n := by have := h.1; simpa using this
 rw [h1, List.getElem?_map, List.getElem?_eq_getElem (by omega), List.getD_eq_getElem?_getD, List.getElem?_eq_getElem (by omega)]
 rfl

theorem own_edge20 {w : World} {lo : Nat} {ty : TypeId} {a : Option Addr} {c n : Nat} {xs : List Edge} (h : w.ownsRow lo ty 3 (.slice a n c) n (xs.flatMap encE)) (hn : n = xs.length) {i : Nat} (hi : i < xs.length) :
  ∃ b, a = some ⟨b, 0, none⟩ ∧ b < w.heap.size ∧ w.cell? ⟨b, i * 3, none⟩ = some (.int .i64 xs[i].src) ∧ w.cell? ⟨b, i * 3 + 1, none⟩ = some (.int .i64 xs[i].lab) ∧ w.cell? ⟨b, i * 3 + 2, none⟩ = some (.int .i64 xs[i].dst) := by
 subst hn
 have hs : SliceK 3 encE lo w (.slice a xs.length c) xs := SliceK.of_owns encE_len rfl h
 obtain ⟨a2, c2, e2, -, -, hrow⟩ := hs
 simp only [Value.slice.injEq, true_and] at e2
 obtain ⟨rfl, rfl⟩ := e2
 obtain ⟨b, o, rfl, -, hb, e1, e2, e3⟩ := hrow.edge hi
 rcases h.2 with ⟨e, -⟩ | ⟨g, cap, cur, e, -⟩
 ·simp at e
 ·simp only [Value.slice.injEq, Option.some.injEq, Addr.mk.injEq, and_true, true_and] at e
  obtain ⟨⟨rfl, rfl⟩, rfl⟩ := e
  rw [Nat.zero_add] at e1 e2 e3
  exact ⟨b, rfl, hb, e1, e2, e3⟩

end Go.Proofs.YtjghfgaincnegaaGreatDoor

namespace Go.Proofs.YtjghfgaincnegaaGreatDoor
open Go Go.RowKit

def verdB (x : Int) : Bool := !(decide (0 ≤ x) && decide (x ≤ 2))
theorem vm1_any (x : Int) (w : World) : Calls Tryz.prog 50 #[.int .i64 x] w fun e w' => e = .returned (.bool (verdB x)) ∧ Below w.heap.size w w' := by
 have HW := Lib.hid (within_any x 0 2 w)
 obtain ⟨b, hb⟩ : ∃ b, b = (decide (0 ≤ x) && decide (x ≤ 2)) := ⟨_, rfl⟩
 rw [← hb] at HW
 have HB : Hid (verdB x = !b) := by unfold Hid verdB; rw [hb]
 clear hb
 go_enter Tryz.func50, Tryz.ntmps50
 go_wp2_with fail
 refine Calls.mono HW.out ?_
 rintro e w1 ⟨rfl, rfl⟩
 go_wp2_with fail
 go_ret
 exact ⟨by rw [HB.out]; rfl, Below.refl _ _⟩
def finB (V : List Int) (e : Edge) : Bool := V.getD e.src.toNat 0 != 0
set_option maxHeartbeats 1000000 in
theorem vm2_any (lo b0 : Nat) (V : List Int) (vv : Value) (e0 : Edge) (w : World) (hs0 : 0 ≤ e0.src) (hs1 : e0.src < (V.length : Int)) (hb : b0 < w.heap.size) (hc : w.cell? ⟨b0, 4, none⟩ = some vv) (hv : SliceK 1 encI lo w vv V) :
  Calls Tryz.prog 53 #[.agg #[.int .i64 e0.src, .int .i64 e0.lab, .int .i64 e0.dst], .pointer (some ⟨b0, 0, none⟩)] w fun e w' => e = .returned (.bool (finB V e0)) ∧ Below w.heap.size w w' := by
 obtain ⟨k, hk⟩ : ∃ k : Nat, (k : Int) = e0.src := ⟨e0.src.toNat, by omega⟩
 have hkV : k < V.length := by omega
 obtain ⟨a, c, rfl, hn, hcc, hrow⟩ := hv
 obtain ⟨bl, ol, rfl, -, hbl, c1⟩ := hrow.one hkV
 simp only [encI, List.getElem?_cons_zero] at c1
 obtain ⟨x, hx⟩ : ∃ x, x = V[k] := ⟨_, rfl⟩
 rw [← hx] at c1
 have HF : Hid (finB V e0 = (x != 0)) := by
  unfold Hid finB
  rw [← hk, Int.toNat_natCast, List.getD_eq_getElem?_getD, List.getElem?_eq_getElem hkV, hx]
  rfl
 rw [← hk]
 obtain ⟨N, hN⟩ : ∃ N, N = V.length := ⟨_, rfl⟩
 rw [← hN] at hc hn hkV
 obtain ⟨W, hW⟩ : ∃ W, W = w.alloc (.cells #[.int .i64 k, .int .i64 e0.lab, .int .i64 e0.dst] 78) := ⟨_, rfl⟩
 have hb0 : Below w.heap.size w W := by rw [hW]; exact box_below _ _ _
 have HB0 := Lib.hid hb0
 clear hx hk hN hrow hs0 hs1 hW hb0
 go_enter Tryz.func53, Tryz.ntmps53
 go_wp2
 go_ret
 exact ⟨by rw [HF.out]; rfl, (Below.refl _ _).alloc (Nat.le_refl _) _⟩

theorem mon_iff {m : Mon} (hv : Valid m.sys) (hs : Single m.sys) (hl : (m.vs.length : Int) = m.sys.states) : MonOk m ↔ m.vs.any verdB = false ∧ m.sys.edges.any (finB m.vs) = false := by
 constructor
 ·intro h
  rw [List.any_eq_false, List.any_eq_false]
  refine ⟨fun x hx => ?_, fun e he => ?_⟩
  ·have := h.low x hx
   unfold verdB
   rw [decide_eq_true this.1, decide_eq_true this.2]
   simp
  ·unfold finB
   rw [h.fin e he]
   simp
 ·rintro ⟨h1, h2⟩
  rw [List.any_eq_false] at h1 h2
  refine ⟨hv, hs, hl, fun x hx => ?_, fun e he => ?_⟩
  ·have := h1 x hx
   unfold verdB at this
   simpa using this
  ·have := h2 e he
   unfold finB at this
   simpa using this

set_option maxRecDepth 100000 in
set_option maxHeartbeats 2000000 in
theorem ValidMonitor_any (lo : Nat) (m : Mon) (lv ev vv : Value) (w : World) (hsh : Short20 m.sys.labels) (hp : MonIn lo w lv ev vv m) (g : Glob w) :
  Calls Tryz.prog 22 #[.agg #[.int .i64 m.sys.states, .int .i64 m.sys.initial, lv, ev, vv]] w (Decides (MonOk m) w) := by
 obtain ⟨W, hW⟩ : ∃ W, W = w.alloc (.cells #[.int .i64 m.sys.states, .int .i64 m.sys.initial, lv, ev, vv] 34) := ⟨_, rfl⟩
 obtain ⟨b0, hb0⟩ : ∃ b0, b0 = w.heap.size := ⟨_, rfl⟩
 have hB0 : Below w.heap.size w W := by rw [hW]; exact box_below _ _ _
 have hBX : Blk W b0 [.int .i64 m.sys.states, .int .i64 m.sys.initial, lv, ev, vv] 34 := by rw [hW, hb0]; exact Blk.new w _ _
 have HB0 := Lib.hid hB0
 have HBX := Lib.hid hBX
 have HW := Lib.hid hW
 have HP := Lib.hid (hp.below hB0)
 have HZ0 := Lib.hid hb0
 have HC := Lib.hid (IsDet_any lo m.sys lv ev W hsh HP.out.labels HP.out.edges (g.below hB0))
 have hMarks := hp.marks
 obtain ⟨⟨al, cl, rfl, -⟩, ⟨ae, ce, rfl, -⟩, -⟩ := hp
 obtain ⟨am, cm, rfl, hmn, hmc, -⟩ := hMarks
 obtain ⟨VN, hVN⟩ : ∃ VN, VN = m.vs.length := ⟨_, rfl⟩
 obtain ⟨ST, hST⟩ : ∃ ST, ST = m.sys.states := ⟨_, rfl⟩
 rw [← hVN] at HBX HW hmn HP
 rw [← hST] at HBX HW HC
 rw [← hVN, ← hST]
 have HVN := Lib.hid hVN
 have HST := Lib.hid hST
 clear hsh g hB0 hBX hW hb0 hVN hST
 by_cases hd : Valid m.sys ∧ Single m.sys
 ·have HD := Lib.hid hd
  have HC1 := Lib.hid (Decides.yes HC.out hd)
  clear hd
  by_cases hn : (VN : Int) = ST
  ·have hb : ((VN : Int) != ST) = false := by rw [hn]; simp
   have HN : Hid ((m.vs.length : Int) = m.sys.states) := by unfold Hid; rw [← HVN.out, ← HST.out]; exact hn
   have HM := Lib.hid (mon_iff HD.out.1 HD.out.2 HN.out)
   clear hn
   go_enter Tryz.func22, Tryz.ntmps22
   go_wp2_with fail
   rw [← HW.out]
   refine Calls.mono HC1.out ?_
   rintro e w1 ⟨rfl, hb1⟩
   have X1 := Lib.hid (HBX.out.below hb1)
   have x0 := X1.out.cell 0 rfl
   have x3 := X1.out.cell 3 rfl
   have x4 := X1.out.cell 4 rfl
   have HB1 := Lib.hid hb1
   have hCF := ContainsFuncI lo (.slice am VN cm) m.vs 50 #[] verdB w1 (HP.out.marks.below hb1) (fun _ _ => rfl) (fun w' _ x _ => vm1_any x w')
   obtain ⟨q1, hq1⟩ : ∃ q1, q1 = m.vs.any verdB := ⟨_, rfl⟩
   rw [← hq1] at hCF HM
   have HCF := Lib.hid hCF
   have HQ1 := Lib.hid hq1
   rw [← HZ0.out]
   clear hb1 hCF hq1
   go_wp2_with fail
   refine Calls.mono HCF.out ?_
   rintro e w2 ⟨rfl, hb2⟩
   have HB2 := Lib.hid (HB1.out.trans (hb2.mono HB1.out.size))
   have X2 := Lib.hid (HBX.out.below HB2.out)
   clear hb2 x0 x3 x4
   cases q1
   ·have x3 := X2.out.cell 3 rfl
    have hCE := ContainsFuncE lo (.slice ae m.sys.edges.length ce) m.sys.edges 53 #[.pointer (some ⟨b0, 0, none⟩)] (finB m.vs) w2 (HP.out.edges.below HB2.out) (fun _ _ => rfl) (fun w' hb' x hx => by
     obtain ⟨i, hi, rfl⟩ := List.mem_iff_getElem.1 hx
     have ho := HD.out.1.edge i hi
     exact vm2_any lo b0 m.vs (.slice am VN cm) m.sys.edges[i] w' ho.s0 (by rw [HN.out]; exact ho.s1) (X2.out.below hb').lt ((X2.out.below hb').cell 4 rfl) ((HP.out.marks.below HB2.out).below hb'))
    obtain ⟨q2, hq2⟩ : ∃ q2, q2 = m.sys.edges.any (finB m.vs) := ⟨_, rfl⟩
    rw [← hq2] at hCE HM
    have HCE := Lib.hid hCE
    clear hCE hq2
    go_wp2_with fail
    refine Calls.mono HCE.out ?_
    rintro e w3 ⟨rfl, hb3⟩
    have HB3 := Lib.hid (HB2.out.trans (hb3.mono HB2.out.size))
    clear hb3
    go_wp2_with fail
    go_ret
    exact ⟨!q2, rfl, by rw [HM.out]; cases q2 <;> simp, HB0.out.trans (HB3.out.mono HB0.out.size)⟩
   ·go_wp2_with fail
    go_ret
    exact ⟨false, rfl, by rw [HM.out]; simp, HB0.out.trans (HB2.out.mono HB0.out.size)⟩
  ·have hb : ((VN : Int) != ST) = true := bne_iff_ne.2 hn
   have HN : Hid (¬ MonOk m) := fun h => hn (by rw [HVN.out, HST.out]; exact h.len)
   clear hn
   go_enter Tryz.func22, Tryz.ntmps22
   go_wp2_with fail
   rw [← HW.out]
   refine Calls.mono HC1.out ?_
   rintro e w1 ⟨rfl, hb1⟩
   have X1 := Lib.hid (HBX.out.below hb1)
   have x0 := X1.out.cell 0 rfl
   have x4 := X1.out.cell 4 rfl
   have HB1 := Lib.hid hb1
   rw [← HZ0.out]
   clear hb1
   go_wp2_with fail
   go_ret
   exact ⟨false, rfl, ⟨(fun h => by cases h), fun h => absurd h HN.out⟩, HB0.out.trans (HB1.out.mono HB0.out.size)⟩
 ·have HC1 := Lib.hid (Decides.no HC.out hd)
  have HN : Hid (¬ MonOk m) := fun h => hd ⟨h.valid, h.single⟩
  clear hd
  go_enter Tryz.func22, Tryz.ntmps22
  go_wp2_with fail
  rw [← HW.out]
  refine Calls.mono HC1.out ?_
  rintro e w1 ⟨rfl, hb1⟩
  have HB1 := Lib.hid hb1
  clear hb1
  go_wp2_with fail
  go_ret
  exact ⟨false, rfl, ⟨(fun h => by cases h), fun h => absurd h HN.out⟩, HB0.out.trans (HB1.out.mono HB0.out.size)⟩

end Go.Proofs.YtjghfgaincnegaaGreatDoor

namespace Go.Proofs.YtjghfgaincnegaaGreatDoor
open Go Go.RowKit

/-- The first place of an item, or the length. -/
def fstIx {α : Type} [DecidableEq α] : List α → α → Nat
 | [], _ => 0
 | y :: l, x => if y = x then 0 else fstIx l x + 1
theorem fstIx_le {α : Type} [DecidableEq α] : ∀ (l : List α) (x : α), fstIx l x ≤ l.length
 | [], _ => Nat.le_refl _
 | y :: l, x => by
  unfold fstIx
  split
  ·exact Nat.zero_le _
  ·exact Nat.succ_le_succ (fstIx_le l x)
theorem fstIx_lt {α : Type} [DecidableEq α] : ∀ {l : List α} {x : α}, x ∈ l → fstIx l x < l.length
 | [], _, h => by cases h
 | y :: l, x, h => by
  unfold fstIx
  split
  ·exact Nat.succ_pos _
  ·next hn =>
   rcases List.mem_cons.1 h with e | e
   ·exact absurd e.symm hn
   ·exact Nat.succ_lt_succ (fstIx_lt e)
theorem fstIx_not {α : Type} [DecidableEq α] : ∀ {l : List α} {x : α}, x ∉ l → fstIx l x = l.length
 | [], _, _ => rfl
 | y :: l, x, h => by
  have h1 : ¬ y = x := fun e => h (by rw [e]; exact List.mem_cons_self ..)
  unfold fstIx
  rw [if_neg h1, fstIx_not fun k => h (List.mem_cons_of_mem _ k)]
  rfl
theorem fstIx_get {α : Type} [DecidableEq α] : ∀ {l : List α} {x : α}, x ∈ l → l[fstIx l x]? = some x
 | [], _, h => by cases h
 | y :: l, x, h => by
  unfold fstIx
  by_cases e : y = x
  ·rw [if_pos e, e]; rfl
  ·rw [if_neg e]
   rcases List.mem_cons.1 h with k | k
   ·exact absurd k.symm e
   ·exact fstIx_get k
theorem fstIx_first {α : Type} [DecidableEq α] : ∀ {l : List α} {x : α} {j : Nat}, j < fstIx l x → l[j]? ≠ some x
 | [], _, j, h => by simp
 | y :: l, x, j, h => by
  unfold fstIx at h
  by_cases e : y = x
  ·rw [if_pos e] at h; cases h
  ·rw [if_neg e] at h
   cases j with
   | zero => simpa using e
   | succ j => exact fstIx_first (l := l) (Nat.lt_of_succ_lt_succ h)
theorem fstIx_eq {α : Type} [DecidableEq α] {l : List α} {x : α} {i : Nat} (h : l[i]? = some x) (hf : ∀ j, j < i → l[j]? ≠ some x) : fstIx l x = i := by
 have h1 := fstIx_get (List.mem_of_getElem? h)
 rcases Nat.lt_trichotomy (fstIx l x) i with k | k | k
 ·exact absurd h1 (hf _ k)
 ·exact k
 ·exact absurd h (fstIx_first k)
theorem fstIx_append {α : Type} [DecidableEq α] {l m : List α} {x : α} (h : x ∈ l) : fstIx (l ++ m) x = fstIx l x := by
 have h1 := fstIx_lt h
 refine fstIx_eq ?_ fun j hj => ?_
 ·rw [List.getElem?_append_left h1]; exact fstIx_get h
 ·rw [List.getElem?_append_left (by omega)]; exact fstIx_first hj
theorem fstIx_inj {α : Type} [DecidableEq α] {l : List α} {x y : α} (hx : x ∈ l) (hy : y ∈ l) (h : fstIx l x = fstIx l y) : x = y := by
 have h1 := fstIx_get hx
 rw [h, fstIx_get hy] at h1
 exact (Option.some.inj h1).symm

/-- The first places of the items. -/
def firstIx {α : Type} [DecidableEq α] (l : List α) : List Int := l.map fun x => (fstIx l x : Int)
theorem firstIx_len {α : Type} [DecidableEq α] (l : List α) : (firstIx l).length = l.length := by simp [firstIx]
theorem firstIx_at {α : Type} [DecidableEq α] {l : List α} {i : Nat} (h : i < l.length) : (firstIx l)[i]? = some (fstIx l l[i] : Int) := by
 unfold firstIx; rw [List.getElem?_map, List.getElem?_eq_getElem h]; rfl
theorem firstIx_same {α β : Type} [DecidableEq α] [DecidableEq β] {l : List α} {m : List β} (hn : l.length = m.length) (h : ∀ i j (hi : i < l.length) (hj : j < l.length), l[i] = l[j] ↔ m[i]'(by omega) = m[j]'(by omega)) : firstIx l = firstIx m := by
 refine List.ext_getElem? fun i => ?_
 by_cases hi : i < l.length
 ·rw [firstIx_at hi, firstIx_at (show i < m.length by omega)]
  have h1 := fstIx_get (List.getElem_mem hi)
  have hlt := fstIx_lt (List.getElem_mem hi)
  have e : fstIx m (m[i]'(by omega)) = fstIx l l[i] := by
   refine fstIx_eq ?_ fun j hj hk => ?_
   ·rw [List.getElem?_eq_getElem (show fstIx l l[i] < m.length by omega)]
    rw [List.getElem?_eq_getElem hlt] at h1
    exact congrArg some ((h _ _ hlt hi).1 (Option.some.inj h1))
   ·have hj2 : j < l.length := by omega
    rw [List.getElem?_eq_getElem (show j < m.length by omega)] at hk
    have := (h _ _ hj2 hi).2 (Option.some.inj hk)
    exact fstIx_first hj (by rw [List.getElem?_eq_getElem hj2, this])
  rw [e]
 ·rw [List.getElem?_eq_none (by rw [firstIx_len]; omega), List.getElem?_eq_none (by rw [firstIx_len]; omega)]

/-- The items in the order of their first sight. -/
def addNew (acc : List Int) (x : Int) : List Int := if x ∈ acc then acc else acc ++ [x]
def firsts (l : List Int) : List Int := l.foldl addNew []
theorem firsts_snoc (l : List Int) (x : Int) : firsts (l ++ [x]) = addNew (firsts l) x := by unfold firsts; rw [List.foldl_append]; rfl
theorem fold_grows : ∀ (m acc : List Int), ∃ t, m.foldl addNew acc = acc ++ t
 | [], acc => ⟨[], by simp⟩
 | x :: m, acc => by
  obtain ⟨t, ht⟩ := fold_grows m (addNew acc x)
  have : ∃ s, addNew acc x = acc ++ s := by
   unfold addNew
   by_cases h : x ∈ acc
   ·rw [if_pos h]; exact ⟨[], by simp⟩
   ·rw [if_neg h]; exact ⟨[x], rfl⟩
  obtain ⟨s, hs⟩ := this
  refine ⟨s ++ t, ?_⟩
  rw [List.foldl_cons, ht, hs, List.append_assoc]
theorem firsts_append (l m : List Int) : ∃ t, firsts (l ++ m) = firsts l ++ t := by
 unfold firsts; rw [List.foldl_append]; exact fold_grows m _
theorem firsts_mem : ∀ (l : List Int) (x : Int), x ∈ firsts l ↔ x ∈ l := by
 have h : ∀ (m acc : List Int) (x : Int), x ∈ m.foldl addNew acc ↔ x ∈ acc ∨ x ∈ m := by
  intro m
  induction m with
  | nil => intro acc x; simp
  | cons y m ih =>
   intro acc x
   rw [List.foldl_cons, ih]
   have : x ∈ addNew acc y ↔ x ∈ acc ∨ x = y := by
    unfold addNew
    by_cases h : y ∈ acc
    ·rw [if_pos h]
     exact ⟨.inl, fun k => k.elim id fun e => e ▸ h⟩
    ·rw [if_neg h, List.mem_append, List.mem_singleton]
   rw [this, List.mem_cons, or_assoc]
 intro l x
 unfold firsts
 rw [h]
 simp
theorem firsts_len : ∀ (l : List Int), (firsts l).length ≤ l.length := by
 have h : ∀ (m acc : List Int), (m.foldl addNew acc).length ≤ acc.length + m.length := by
  intro m
  induction m with
  | nil => intro acc; simp
  | cons y m ih =>
   intro acc
   rw [List.foldl_cons]
   refine Nat.le_trans (ih _) ?_
   have : (addNew acc y).length ≤ acc.length + 1 := by
    unfold addNew
    by_cases h : y ∈ acc
    ·rw [if_pos h]; omega
    ·rw [if_neg h]; simp
   rw [List.length_cons]; omega
 intro l
 have := h l []
 unfold firsts
 simpa using this
/-- Numbers by first sight. -/
def normL (l : List Int) : List Int := l.map fun x => (fstIx (firsts l) x : Int)
theorem normL_len (l : List Int) : (normL l).length = l.length := by simp [normL]
theorem normL_get {l : List Int} {i : Nat} (h : i < l.length) : (normL l)[i]? = some (fstIx (firsts l) l[i] : Int) := by
 unfold normL; rw [List.getElem?_map, List.getElem?_eq_getElem h]; rfl
theorem normL_at {l : List Int} {i : Nat} (h : i < l.length) : (normL l)[i]? = some (fstIx (firsts (l.take i)) l[i] : Int) := by
 rw [normL_get h]
 have e : l = (l.take i ++ [l[i]]) ++ l.drop (i + 1) := by
  rw [List.append_assoc, List.singleton_append, ← List.drop_eq_getElem_cons h, List.take_append_drop]
 obtain ⟨t, ht⟩ := firsts_append (l.take i ++ [l[i]]) (l.drop (i + 1))
 rw [← e] at ht
 have hm : l[i] ∈ firsts (l.take i ++ [l[i]]) := (firsts_mem _ _).2 (List.mem_append.2 (.inr (List.mem_singleton.2 rfl)))
 rw [ht, fstIx_append hm, firsts_snoc]
 unfold addNew
 by_cases hx : l[i] ∈ firsts (l.take i)
 ·rw [if_pos hx]
 ·rw [if_neg hx, fstIx_not hx]
  congr 2
  refine fstIx_eq ?_ fun j hj hk => ?_
  ·simp
  ·rw [List.getElem?_append_left hj] at hk
   exact hx (List.mem_of_getElem? hk)
theorem normL_range {l : List Int} {x : Int} (h : x ∈ normL l) : 0 ≤ x ∧ x < (l.length : Int) := by
 obtain ⟨y, hy, rfl⟩ := List.mem_map.1 h
 have h1 := fstIx_lt ((firsts_mem l y).2 hy)
 have h2 := firsts_len l
 omega
theorem normL_same {l : List Int} {i j : Nat} (hi : i < l.length) (hj : j < l.length) : (normL l)[i]'(by rw [normL_len]; exact hi) = (normL l)[j]'(by rw [normL_len]; exact hj) ↔ l[i] = l[j] := by
 have h1 := normL_get hi
 have h2 := normL_get hj
 rw [List.getElem?_eq_getElem (by rw [normL_len]; exact hi)] at h1
 rw [List.getElem?_eq_getElem (by rw [normL_len]; exact hj)] at h2
 rw [Option.some.inj h1, Option.some.inj h2]
 constructor
 ·intro h
  exact fstIx_inj ((firsts_mem _ _).2 (List.getElem_mem hi)) ((firsts_mem _ _).2 (List.getElem_mem hj)) (by omega)
 ·intro h; rw [h]
theorem firstIx_pat {α : Type} [DecidableEq α] {l : List α} {i j : Nat} (hi : i < l.length) (hj : j < l.length) : (firstIx l)[i]'(by rw [firstIx_len]; exact hi) = (firstIx l)[j]'(by rw [firstIx_len]; exact hj) ↔ l[i] = l[j] := by
 have h1 := firstIx_at hi
 have h2 := firstIx_at hj
 rw [List.getElem?_eq_getElem (by rw [firstIx_len]; exact hi)] at h1
 rw [List.getElem?_eq_getElem (by rw [firstIx_len]; exact hj)] at h2
 rw [Option.some.inj h1, Option.some.inj h2]
 constructor
 ·intro h
  exact fstIx_inj (List.getElem_mem hi) (List.getElem_mem hj) (by omega)
 ·intro h; rw [h]
/-- The blocks of equal items. -/
def blocksL {α : Type} [DecidableEq α] (l : List α) : List Int := normL (firstIx l)
theorem blocksL_len {α : Type} [DecidableEq α] (l : List α) : (blocksL l).length = l.length := by unfold blocksL; rw [normL_len, firstIx_len]
theorem blocksL_pat {α : Type} [DecidableEq α] {l : List α} {i j : Nat} (hi : i < l.length) (hj : j < l.length) : (blocksL l)[i]'(by rw [blocksL_len]; exact hi) = (blocksL l)[j]'(by rw [blocksL_len]; exact hj) ↔ l[i] = l[j] := by
 unfold blocksL
 rw [normL_same (by rw [firstIx_len]; exact hi) (by rw [firstIx_len]; exact hj), firstIx_pat hi hj]
theorem blocksL_same {α β : Type} [DecidableEq α] [DecidableEq β] {l : List α} {m : List β} (hn : l.length = m.length) (h : ∀ i j (hi : i < l.length) (hj : j < l.length), l[i] = l[j] ↔ m[i]'(by omega) = m[j]'(by omega)) : blocksL l = blocksL m := by
 unfold blocksL; rw [firstIx_same hn h]
theorem blocksL_range {α : Type} [DecidableEq α] {l : List α} {x : Int} (h : x ∈ blocksL l) : 0 ≤ x ∧ x < (l.length : Int) := by
 have := normL_range h
 rwa [firstIx_len] at this
/-- What a state's moves lead to, by blocks. -/
def blkOf (go : Nat → Nat → Int) (m : Nat) (p : List Int) (i : Nat) : List Int := (List.range m).map fun k => if go i k < 0 then -1 else p.getD (go i k).toNat 0
def implStep (go : Nat → Nat → Int) (n m : Nat) (p : List Int) : List Int := blocksL ((List.range n).map fun i => p.getD i 0 :: blkOf go m p i)
theorem getD_eq {p : List Int} {i : Nat} (h : i < p.length) : p.getD i 0 = p[i] := by rw [List.getD_eq_getElem?_getD, List.getElem?_eq_getElem h]; rfl
theorem blkOf_iff {go : Nat → Nat → Int} {m : Nat} {p : List Int} {i j : Nat} : blkOf go m p i = blkOf go m p j ↔ ∀ k, k < m → (if go i k < 0 then (-1 : Int) else p.getD (go i k).toNat 0) = (if go j k < 0 then -1 else p.getD (go j k).toNat 0) := by
 unfold blkOf
 constructor
 ·intro h k hk
  have h1 := congrArg (fun l => l[k]?) h
  simpa [hk] using h1
 ·intro h
  refine List.map_congr_left fun k hk => h k (List.mem_range.1 hk)
theorem filter_less {p q : Nat → Bool} : ∀ (l : List Nat), (∀ x ∈ l, p x = true → q x = true) → (l.filter p).length ≤ (l.filter q).length
 | [], _ => Nat.le_refl _
 | x :: l, h => by
  have ih := filter_less l fun y hy => h y (List.mem_cons_of_mem _ hy)
  have h0 := h x (List.mem_cons_self ..)
  rw [List.filter_cons, List.filter_cons]
  cases hp : p x
  ·cases hq : q x
   ·exact ih
   ·exact Nat.le_succ_of_le ih
  ·rw [hp] at h0; rw [h0 rfl]; exact Nat.succ_le_succ ih
theorem filter_lt {p q : Nat → Bool} : ∀ (l : List Nat), (∀ x ∈ l, p x = true → q x = true) → (∃ x ∈ l, p x = false ∧ q x = true) → (l.filter p).length < (l.filter q).length
 | [], _, ⟨_, h, _⟩ => by cases h
 | x :: l, h, ⟨y, hy, h1, h2⟩ => by
  have h0 := h x (List.mem_cons_self ..)
  have ht := fun y hy => h y (List.mem_cons_of_mem x hy)
  have il := filter_less l ht
  rw [List.filter_cons, List.filter_cons]
  rcases List.mem_cons.1 hy with e | e
  ·subst e
   rw [h1, h2]
   exact Nat.lt_succ_of_le il
  ·have ih := filter_lt l ht ⟨y, e, h1, h2⟩
   cases hp : p x
   ·cases hq : q x
    ·exact ih
    ·exact Nat.lt_succ_of_lt ih
   ·rw [hp] at h0; rw [h0 rfl]; exact Nat.succ_lt_succ ih
end Go.Proofs.YtjghfgaincnegaaGreatDoor
