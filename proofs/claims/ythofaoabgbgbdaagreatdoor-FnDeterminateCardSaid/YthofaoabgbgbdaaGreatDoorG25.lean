/-
  The implementation's EqualFailures.
  The library's slices.IndexFunc and slices.ContainsFunc at a slice of edges, with a function that may lay blocks of its own.
  What the library's Repeat computes of one truth value.
  The implementation's divergent: from which states an endless path of internal edges begins.
  What both texts of FirstDivergence return.
  The implementation's FirstDivergence.
-/
import Derived.Test.YthofaoabgbgbdaaGreatDoorG24
import Derived.Test.YthofaoabgbgbdaaGreatDoorG12
import Derived.Test.YthofaoabgbgbdaaGreatDoorProg
import Derived.Test.YthofaoabgbgbdaaGreatDoorG1
import Derived.Test.YthofaoabgbgbdaaGreatDoorG5
import Derived.Laws.CopyOwn
import Derived.Deep.RegionLaw
import Derived.Test.YthofaoabgbgbdaaGreatDoorG17
import Derived.Test.YthofaoabgbgbdaaGreatDoorG16
import Derived.Test.YthofaoabgbgbdaaGreatDoorG23
namespace Go.Proofs.YthofaoabgbgbdaaGreatDoor
open Go Go.RowKit

set_option maxRecDepth 100000 in
set_option maxHeartbeats 4000000 in
theorem implEqualFailures_any (lo : Nat) (a : Lts) (la ea : Value) (b : Lts) (lb eb : Value) (w : World) (hsa : Short20 a.labels) (hsb : Short20 b.labels) (hal : SliceK 1 encS lo w la a.labels) (hae : SliceK 3 encE lo w ea a.edges)
  (hbl : SliceK 1 encS lo w lb b.labels) (hbe : SliceK 3 encE lo w eb b.edges) (g : Glob w) :
  Calls Tryz.prog 12 #[.agg #[.int .i64 a.states, .int .i64 a.initial, la, ea], .agg #[.int .i64 b.states, .int .i64 b.initial, lb, eb]] w (RetEqf a b w) := by
 obtain ⟨p, hp⟩ : ∃ p, p = w.heap.size := ⟨_, rfl⟩
 obtain ⟨W, hW⟩ : ∃ W, W = (w.alloc (.cells #[.int .i64 a.states, .int .i64 a.initial, la, ea] 27)).alloc (.cells #[.int .i64 b.states, .int .i64 b.initial, lb, eb] 27) := ⟨_, rfl⟩
 have hB0 : Below w.heap.size w W := by rw [hW]; exact ((Below.refl _ _).alloc (Nat.le_refl _) _).alloc (by simp) _
 have hA : Blk W p [.int .i64 a.states, .int .i64 a.initial, la, ea] 27 := by rw [hW, hp]; exact (Blk.new w _ _).alloc _
 have hBb : Blk W (p + 1) [.int .i64 b.states, .int .i64 b.initial, lb, eb] 27 := by
  have := Blk.new (w.alloc (.cells #[.int .i64 a.states, .int .i64 a.initial, la, ea] 27)) [.int .i64 b.states, .int .i64 b.initial, lb, eb] 27
  rw [World.size_alloc, ← hp] at this
  rw [hW]
  exact this
 have HVA := Lib.hid (ValidLts_any lo a la ea W hsa (hal.below hB0) (hae.below hB0) (g.below hB0))
 have HVB := Lib.hid (fun w' (hb : Below W.heap.size W w') => ValidLts_any lo b lb eb w' hsb ((hbl.below hB0).below hb) ((hbe.below hB0).below hb) ((g.below hB0).below hb))
 have HRF := Lib.hid (fun w' (hb : Below W.heap.size W w') (ha : Valid a) (hb' : Valid b) => refinement_any lo a b la ea lb eb w' ha hb' hsa hsb ((hal.below hB0).below hb) ((hae.below hB0).below hb) ((hbl.below hB0).below hb) ((hbe.below hB0).below hb) ((g.below hB0).below hb))
 have HRG := Lib.hid (fun w' (hb : Below W.heap.size W w') (ha : Valid a) (hb' : Valid b) => refinement_any lo b a lb eb la ea w' hb' ha hsb hsa ((hbl.below hB0).below hb) ((hbe.below hB0).below hb) ((hal.below hB0).below hb) ((hae.below hB0).below hb) ((g.below hB0).below hb))
 have HA := Lib.hid hA
 have HB := Lib.hid hBb
 have HB0 := Lib.hid hB0
 have HW := Lib.hid hW
 have HP := Lib.hid hp
 clear hsa hsb hal hae hbl hbe g hA hBb hB0 hW hp
 by_cases hva : Valid a
 ·have HV1 := Lib.hid hva
  by_cases hvb : Valid b
  ·have HV2 := Lib.hid hvb
   clear hva hvb
   go_enter Tryz.func12, Tryz.ntmps12
   go_wp2_with fail
   rw [← HW.out]
   refine (Decides.yes HVA.out HV1.out).mono ?_
   rintro e w1 ⟨rfl, hb1⟩
   have HB1 := Lib.hid hb1
   have x0 := (HB.out.below hb1).cell 0 rfl
   have x1 := (HB.out.below hb1).cell 1 rfl
   have x2 := (HB.out.below hb1).cell 2 rfl
   have x3 := (HB.out.below hb1).cell 3 rfl
   rw [← HP.out]
   clear hb1 HVA
   go_wp2_with fail
   refine (Decides.yes (HVB.out _ HB1.out) HV2.out).mono ?_
   rintro e w2 ⟨rfl, hb2⟩
   have hd2 := HB1.out.trans (hb2.mono HB1.out.size)
   have HD2 := Lib.hid hd2
   clear x0 x1 x2 x3
   have x0 := (HA.out.below hd2).cell 0 rfl
   have x1 := (HA.out.below hd2).cell 1 rfl
   have x2 := (HA.out.below hd2).cell 2 rfl
   have x3 := (HA.out.below hd2).cell 3 rfl
   have y0 := (HB.out.below hd2).cell 0 rfl
   have y1 := (HB.out.below hd2).cell 1 rfl
   have y2 := (HB.out.below hd2).cell 2 rfl
   have y3 := (HB.out.below hd2).cell 3 rfl
   clear hb2 hd2 HVB HB1
   go_wp2_with fail
   refine Calls.mono (HRF.out _ HD2.out HV1.out HV2.out) ?_
   rintro e w3 ⟨ok, r, v1, v2, rfl, hb3, hret⟩
   have HD3 := Lib.hid (HD2.out.trans (hb3.mono HD2.out.size))
   have HBF := Lib.hid (HB0.out.trans (HD3.out.mono HB0.out.size))
   have HRET := Lib.hid hret
   have HLO : Hid (w.heap.size ≤ w2.heap.size) := Nat.le_trans HB0.out.size HD2.out.size
   clear hb3 hret x0 x1 x2 x3 y0 y1 y2 y3
   have z0 := (HA.out.below HD3.out).cell 0 rfl
   have z1 := (HA.out.below HD3.out).cell 1 rfl
   have z2 := (HA.out.below HD3.out).cell 2 rfl
   have z3 := (HA.out.below HD3.out).cell 3 rfl
   have u0 := (HB.out.below HD3.out).cell 0 rfl
   have u1 := (HB.out.below HD3.out).cell 1 rfl
   have u2 := (HB.out.below HD3.out).cell 2 rfl
   have u3 := (HB.out.below HD3.out).cell 3 rfl
   go_wp2_with fail
   refine Calls.mono (HRG.out _ HD3.out HV1.out HV2.out) ?_
   rintro e w4 ⟨ok2, r2, v3, v4, rfl, hb4, hret2⟩
   have HB4 := Lib.hid (HBF.out.trans (hb4.mono HBF.out.size))
   have HRET2 := Lib.hid hret2
   clear hb4 hret2 z0 z1 z2 z3 u0 u1 u2 u3
   cases ok with
   | false =>
    have HF : Hid (DFull a ∨ DFull b) := by
     rcases HRET.out with ⟨-, h⟩ | ⟨h, -⟩
     ·exact h
     ·cases h
    go_wp2
    go_ret2
    exact ⟨HB4.out, false, 5, rfl, eqf_full HV1.out HV2.out HF.out⟩
   | true =>
    obtain ⟨sa, sb, xs, ys, h1, h2, h3⟩ : ∃ sa sb xs ys, DOk a sa ∧ DOk b sb ∧ RefB a b sa sb r xs ys := by
     rcases HRET.out with ⟨h, -⟩ | ⟨-, sa, sb, xs, ys, h1, h2, h3, -⟩
     ·cases h
     ·exact ⟨sa, sb, xs, ys, h1, h2, h3⟩
    obtain ⟨rfl, sb', sa', xs', ys', k1, k2, k3⟩ : ok2 = true ∧ ∃ sb' sa' xs' ys', DOk b sb' ∧ DOk a sa' ∧ RefB b a sb' sa' r2 xs' ys' := by
     rcases HRET2.out with ⟨-, h⟩ | ⟨h, sa, sb, xs, ys, k1, k2, k3, -⟩
     ·exact absurd h (fun e => e.elim h2.not_full h1.not_full)
     ·exact ⟨h, sa, sb, xs, ys, k1, k2, k3⟩
    have HAN := Lib.hid (eqf_some HV1.out HV2.out h1 h2 k2 k1 h3 k3)
    clear h1 h2 h3 k1 k2 k3 HRET HRET2
    cases r
    all_goals (
     cases r2
     all_goals (
      go_wp2
      go_ret2
      exact ⟨HB4.out, _, 0, rfl, HAN.out⟩))
  ·have HV2 := Lib.hid hvb
   clear hva hvb
   go_enter Tryz.func12, Tryz.ntmps12
   go_wp2_with fail
   rw [← HW.out]
   refine (Decides.yes HVA.out HV1.out).mono ?_
   rintro e w1 ⟨rfl, hb1⟩
   have HB1 := Lib.hid hb1
   have x0 := (HB.out.below hb1).cell 0 rfl
   have x1 := (HB.out.below hb1).cell 1 rfl
   have x2 := (HB.out.below hb1).cell 2 rfl
   have x3 := (HB.out.below hb1).cell 3 rfl
   rw [← HP.out]
   clear hb1 HVA
   go_wp2_with fail
   refine (Decides.no (HVB.out _ HB1.out) HV2.out).mono ?_
   rintro e w2 ⟨rfl, hb2⟩
   have HD2 := Lib.hid (HB0.out.trans ((HB1.out.trans (hb2.mono HB1.out.size)).mono HB0.out.size))
   clear hb2 x0 x1 x2 x3
   go_wp2
   go_ret2
   exact ⟨HD2.out, false, 1, rfl, eqf_bad (fun h => HV2.out h.2)⟩
 ·have HV1 := Lib.hid hva
  clear hva
  go_enter Tryz.func12, Tryz.ntmps12
  go_wp2_with fail
  rw [← HW.out]
  refine (Decides.no HVA.out HV1.out).mono ?_
  rintro e w1 ⟨rfl, hb1⟩
  have HD1 := Lib.hid (HB0.out.trans (hb1.mono HB0.out.size))
  clear hb1 HVA
  go_wp2
  go_ret2
  exact ⟨HD1.out, false, 1, rfl, eqf_bad (fun h => HV1.out h.1)⟩

end Go.Proofs.YthofaoabgbgbdaaGreatDoor

namespace Go.Proofs.YthofaoabgbgbdaaGreatDoor
open Go Go.RowKit

def idxE (P : Edge → Bool) (xs : List Edge) : Int := if xs.findIdx P < xs.length then (xs.findIdx P : Nat) else -1
theorem idxE_neg {P : Edge → Bool} {xs : List Edge} : idxE P xs = -1 ↔ ∀ x ∈ xs, P x = false := by
 unfold idxE
 by_cases h : xs.findIdx P < xs.length
 ·rw [if_pos h]
  refine ⟨fun e => by omega, fun h2 => ?_⟩
  obtain ⟨x, hx, hp⟩ := List.findIdx_lt_length.1 h
  rw [h2 x hx] at hp
  cases hp
 ·rw [if_neg h]
  refine ⟨fun _ x hx => ?_, fun _ => rfl⟩
  cases hp : P x
  ·rfl
  ·exact absurd (List.findIdx_lt_length.2 ⟨x, hx, hp⟩) h
theorem idxE_any {P : Edge → Bool} {xs : List Edge} : decide (0 ≤ idxE P xs) = xs.any P := by
 unfold idxE
 by_cases h : xs.findIdx P < xs.length
 ·rw [if_pos h]
  obtain ⟨x, hx, hp⟩ := List.findIdx_lt_length.1 h
  rw [List.any_eq_true.2 ⟨x, hx, hp⟩]
  simp
 ·rw [if_neg h]
  have : xs.any P = false := by
   rw [List.any_eq_false]
   intro x hx hp
   exact h (List.findIdx_lt_length.2 ⟨x, hx, hp⟩)
  rw [this]
  rfl
/-- A function of one element that answers P, and turns nothing that was there. -/
def AskE (fid : Nat) (caps : Array Value) (P : Edge → Bool) (xs : List Edge) (B : Nat) (w : World) : Prop :=
 ∀ w', Below B w w' → ∀ x ∈ xs, Calls Tryz.prog fid (#[.agg #[.int .i64 x.src, .int .i64 x.lab, .int .i64 x.dst]] ++ caps) w' fun e w'' => e = .returned (.bool (P x)) ∧ Below w'.heap.size w' w''

set_option maxRecDepth 100000 in
set_option maxHeartbeats 1000000 in
theorem IndexFuncE (lo : Nat) (v : Value) (xs : List Edge) (fid : Nat) (caps : Array Value) (P : Edge → Bool) (w : World) (hv : SliceK 3 encE lo w v xs) (eg : ∀ args w, (callFunc fid args).run Tryz.prog w = .ok (.enter fid args) w) (hP : AskE fid caps P xs w.heap.size w) :
  Calls Tryz.prog 110 #[v, .func (.func fid) #[] caps] w fun e w' => e = .returned (.int .i64 (idxE P xs)) ∧ Below w.heap.size w w' := by
 obtain ⟨a, c, rfl, hcn, hcc, hrow⟩ := hv
 have HR := Lib.hid hrow
 have HP := Lib.hid hP
 clear hP hrow
 go_enter Tryz.func110, Tryz.ntmps110
 go_wp2_with fail
 go_loopw [8] (fun i wr => ∃ k : Nat, k ≤ xs.length ∧ i = .int .i64 k ∧ Below w.heap.size w wr ∧ ∀ j (h : j < xs.length), j < k → P xs[j] = false) (fun i _ => xs.length - (intOf i).toNat)
 case atStart => exact ⟨0, Nat.zero_le _, rfl, Below.refl _ _, fun _ _ h => by omega⟩
 case round =>
  obtain ⟨k, hk, rfl, hbl, ha⟩ := hrel
  have HA := Lib.hid ha
  have HBL := Lib.hid hbl
  clear ha
  by_cases hlt : k < xs.length
  ·obtain ⟨b1, o1, rfl, -, hbs, c1, c2, c3⟩ := (HR.out.below hbl).edge hlt
   clear hbl
   obtain ⟨x, hx⟩ : ∃ x, x = xs[k] := ⟨_, rfl⟩
   rw [← hx] at c1 c2 c3
   have HX := Lib.hid hx
   have HC := Lib.hid (HP.out wr HBL.out x (by rw [hx]; exact List.getElem_mem _))
   obtain ⟨b, hb⟩ : ∃ b, b = P x := ⟨_, rfl⟩
   rw [← hb] at HC
   have HB := Lib.hid hb
   clear hb hx
   go_wp2_with fail
   refine Calls.mono HC.out ?_
   rintro e w1 ⟨rfl, hb1⟩
   have HB1 := Lib.hid (HBL.out.trans (hb1.mono HBL.out.size))
   clear hb1 c1 c2 c3
   cases b
   ·go_wp2_with fail
    go_roundw
    case rel => exact ⟨k + 1, by omega, by go_num, HB1.out, fun j h hj => by
     by_cases e : j = k
     ·subst e; rw [← HX.out]; exact HB.out.symm
     ·exact HA.out j h (by omega)⟩
    case measure => simp [intOf]; omega
   ·have HI : Hid (idxE P xs = (k : Int)) := by
     unfold Hid idxE
     have h1 : xs.findIdx P = k := by
      rw [List.findIdx_eq hlt]
      exact ⟨by rw [← HX.out]; exact HB.out.symm, fun j hj => HA.out j (by omega) hj⟩
     rw [h1, if_pos hlt]
    go_wp2_with fail
    go_ret
    exact ⟨ret_int HI.out.symm, HB1.out⟩
  ·clear hbl
   have HI : Hid (idxE P xs = -1) := by
    unfold Hid
    rw [idxE_neg]
    intro x hx
    obtain ⟨j, hj, rfl⟩ := List.mem_iff_getElem.1 hx
    exact HA.out j hj (by omega)
   go_wp2_with fail
   go_ret
   exact ⟨ret_int HI.out.symm, HBL.out⟩

theorem ContainsFuncE (lo : Nat) (v : Value) (xs : List Edge) (fid : Nat) (caps : Array Value) (P : Edge → Bool) (w : World) (hv : SliceK 3 encE lo w v xs) (eg : ∀ args w, (callFunc fid args).run Tryz.prog w = .ok (.enter fid args) w) (hP : AskE fid caps P xs w.heap.size w) :
  Calls Tryz.prog 64 #[v, .func (.func fid) #[] caps] w fun e w' => e = .returned (.bool (xs.any P)) ∧ Below w.heap.size w w' := by
 have HC := Lib.hid (IndexFuncE lo v xs fid caps P w hv eg hP)
 clear hP
 go_enter Tryz.func64, Tryz.ntmps64
 go_wp2_with fail
 refine Calls.mono HC.out ?_
 rintro e w' ⟨rfl, hb⟩
 have HB := Lib.hid hb
 clear hb
 go_wp2_with fail
 go_ret
 exact ⟨ret_bool idxE_any, HB.out⟩

end Go.Proofs.YthofaoabgbgbdaaGreatDoor

namespace Go.Proofs.YthofaoabgbgbdaaGreatDoor
open Go Go.RowKit

theorem info_boolR : (Tryz.prog.info? 4).map (fun i => (i.zero, i.size, i.bytes)) = some (some (.bool false), 1, 1) := by kernel_rfl

theorem Mul_one (P : Nat) (w : World) (hP : P ≤ 1073741824) : Calls Tryz.prog 109 #[.int .u64 1, .int .u64 P] w fun e w' => e = .returned (.tuple #[.int .u64 0, .int .u64 P]) ∧ w = w' := by
 have := Tryz.bits_Mul 1 P (by decide) (by omega) w
 refine Calls.mono this ?_
 rintro e w' ⟨rfl, rfl⟩
 refine ⟨?_, rfl⟩
 rw [Nat.one_mul, Nat.div_eq_of_lt (by omega), Nat.mod_eq_of_lt (by omega)]
 rfl

theorem size_bool : (Tryz.prog.info? 4).map (·.size) = some 1 := by kernel_rfl

def halfB (n P : Nat) : List Value := List.replicate n (.bool true) ++ List.replicate (P - n) (.bool false)
theorem halfB_len {n P : Nat} (h : n ≤ P) : (halfB n P).length = P := by unfold halfB; simp; omega
theorem halfB_splice {n P m : Nat} (h : n + m ≤ P) : splice (halfB n P) n (List.replicate m (.bool true)) = halfB (n + m) P := by
 unfold splice halfB
 rw [List.take_append_of_le_length (by simp), List.take_of_length_le (by simp), List.drop_append]
 simp only [List.length_replicate, List.drop_replicate]
 rw [show n - (n + m) = 0 from by omega, List.replicate_zero, List.nil_append, ← List.append_assoc, List.replicate_append_replicate, show P - n - (n + m - n) = P - (n + m) from by omega]
theorem halfB_get {n P j : Nat} (h : j < n) : (halfB n P)[j]? = some (.bool true) := by
 unfold halfB
 rw [List.getElem?_append_left (by simpa using h), List.getElem?_replicate, if_pos h]

set_option maxRecDepth 100000 in
set_option maxHeartbeats 400000 in
theorem Repeat_any (P xb : Nat) (w : World) (h1 : 1 ≤ P) (h2 : P ≤ 40) (hx : w.cell? ⟨xb, 0, none⟩ = some (.bool true)) :
  Calls Tryz.prog 63 #[.slice (some ⟨xb, 0, none⟩) 1 1, .int .i64 P] w fun e w' => e = .returned (.slice (some ⟨w.heap.size, 0, none⟩) P P) ∧ Below w.heap.size w w' ∧ Blk w' w.heap.size (List.replicate P (.bool true)) 4 := by
 obtain ⟨i0, hi, hz0, hz1, hz2⟩ := info_parts info_boolR
 have hxl := World.block_lt_of_cell? _ _ hx
 go_enter Tryz.func63, Tryz.ntmps63
 go_wp2_with fail
 refine (Mul_one P _ (by omega)).mono ?_
 rintro e w' ⟨rfl, rfl⟩
 go_wp2_with (at_make; refine wpList_make_full _ rfl _ _ 58 rfl w.heap.size 4 i0 _ 1 Tryz.underlying58 hi hz0 hz1 .i64 .i64 _ _ P rfl rfl rfl rfl ?_ ?_ ?_ ?_)
 ·rw [hz2]; omega
 ·simp [maxLen]; omega
 ·exact Nat.le_refl _
 ·intro w1 ho hg
  rw [toList_madeCells_one] at ho
  have hb1 : Below w.heap.size w w1 := (Below.refl _ w).grown hg (Nat.le_refl _) (fun _ h => by cases h)
  have hB : Blk w1 w.heap.size (halfB 0 P) 4 := by
   obtain ⟨h0, ⟨e9, -⟩ | ⟨g9, cap, cur, e9, -, hh, hc, hm, hs, ht⟩⟩ := ho
   ·cases e9
   ·simp only [Value.slice.injEq, Option.some.injEq, Addr.mk.injEq, and_true, true_and] at e9
    obtain ⟨e9, rfl⟩ := e9
    subst e9
    unfold Blk halfB
    rw [hh]
    rw [List.take_of_length_le (by simp; omega)] at ht
    simp only [List.replicate_zero, List.nil_append, Nat.sub_zero]
    rw [← ht]
  have hx1 := keeps hb1 hxl hx
  clear hi hz0 hz1 hz2 i0 ho hg
  have HW1 := Lib.hid hb1
  have hB' : w1.heap[w.heap.size]? = some (.cells (halfB 0 P).toArray 4 (0, 0)) := hB
  clear hb1 hx
  go_wp2_with (with_reducible show wpList _ _ _ (⟨some 33, _, _, _, _, _⟩ :: _) _ _; go_loud (refine wpList_copy_splice rfl (.tmp 31) (.tmp 32) 58 58 rfl 4 Tryz.underlying58 size_bool _ _ _ _ _ _ rfl rfl w.heap.size 0 (halfB 0 P) 4 hB' [.bool true] ?c1 ?c2 ?c3 ?c4 w.heap.size w HW1.out (Nat.le_refl _) ?_))
  case c1 => show 1 = Nat.min 1 P; exact (Nat.min_eq_left h1).symm
  case c2 =>
   intro j v hj
   match j, hj with
   | 0, hj => simp at hj; subst hj; exact hx1
   | j + 1, hj => simp at hj
  case c3 => rw [halfB_len (by omega)]; simpa using h1
  case c4 => intro v hv; simp at hv; subst hv; rfl
  intro w2 HG2 hb2
  have hB2 : Blk w2 w.heap.size (halfB 1 P) 4 := by
   have := HG2.out
   rw [show ([.bool true] : List Value) = List.replicate 1 (.bool true) from rfl, halfB_splice (by omega)] at this
   rw [Nat.zero_add] at this
   exact this
  have HB2 := Lib.hid hb2
  have HBB2 := Lib.hid hB2
  clear HG2 hb2 hB hB' hB2 HW1 hx1
  go_wp2_with fail
  go_loopw [8] (fun i wr => ∃ n : Nat, 1 ≤ n ∧ n ≤ P ∧ i = .int .i64 n ∧ Below w.heap.size w wr ∧ Blk wr w.heap.size (halfB n P) 4) (fun i _ => P - (intOf i).toNat)
  case atStart => exact ⟨1, Nat.le_refl _, h1, rfl, HB2.out, HBB2.out⟩
  case round =>
   obtain ⟨n, hn1, hn, rfl, hb, hB⟩ := hrel
   have HB := Lib.hid hb
   clear HB2 HBB2 hb
   by_cases hlt : n < P
   ·have hlt' : (n : Int) < (P : Int) := by omega
    have hni : (n : Int) ≤ (P : Int) := by omega
    have hn0 : (0 : Int) ≤ (n : Int) := by omega
    obtain ⟨m, hm⟩ : ∃ m, m = min n (P - n) := ⟨_, rfl⟩
    have hmP : n + m ≤ P := by omega
    have hmn : m ≤ n := by omega
    have hm1 : 1 ≤ m := by omega
    have hB' : wr.drew.heap[w.heap.size]? = some (.cells (halfB n P).toArray 4 (0, 0)) := hB.below ((Below.refl _ _).drew)
    have hPn : ¬ P = n := by omega
    have HBD : Below w.heap.size w wr.drew := HB.out.drew
    have hrun := run_copy_row (P := Tryz.prog) wr.drew 58 58 3 4 w.heap.size n (P - n) (P - n) ⟨w.heap.size, 0, none⟩ n P (halfB n P).toArray 4 (List.replicate m (.bool true)) Tryz.underlying58 size_bool hB'
     (by rw [List.length_replicate]; exact hm) (fun j v hj => by
      rw [List.getElem?_replicate] at hj
      split at hj
      ·next hlt2 =>
       cases hj
       have : Blk wr.drew w.heap.size (halfB n P) 4 := hB'
       have := this.cell j (halfB_get (P := P) (show j < n by omega))
       rw [Lib.add_plain, Nat.zero_add]
       exact this
      ·cases hj) (by rw [List.length_replicate]; simp [halfB_len hn]; exact hmP) (fun v hv => by rw [List.eq_of_mem_replicate hv]; rfl)
    obtain ⟨W3, hW3⟩ : ∃ W3, W3 = wr.drew.setRow w.heap.size ((halfB n P).toArray.toList.take n ++ List.replicate m (Value.bool true) ++ (halfB n P).toArray.toList.drop (n + (List.replicate m (Value.bool true)).length)).toArray := ⟨_, rfl⟩
    rw [← hW3, List.length_replicate] at hrun
    have HB3 : Hid (Below w.heap.size w W3) := by unfold Hid; rw [hW3]; exact below_setRow HBD (Nat.le_refl _) _
    have HBK3 : Hid (Blk W3 w.heap.size (halfB (n + m) P) 4) := by
     unfold Hid
     rw [hW3, ← halfB_splice hmP]
     have := setRow_heap wr.drew w.heap.size _ ((halfB n P).toArray.toList.take n ++ List.replicate m (Value.bool true) ++ (halfB n P).toArray.toList.drop (n + (List.replicate m (Value.bool true)).length)).toArray 4 _ hB'
     unfold Blk
     simpa [splice] using this
    clear hW3 hB hB' HBD hm
    go_wp2_with fail
    go_region
    clear hrun
    go_wp2_with fail
    go_roundw
    case rel => exact ⟨n + m, by omega, hmP, by go_num, HB3.out, HBK3.out⟩
    case measure => simp [intOf]; omega
   ·obtain rfl : n = P := by omega
    go_wp2_with fail
    go_ret
    refine ⟨rfl, HB.out, ?_⟩
    unfold halfB at hB
    rw [Nat.sub_self, List.replicate_zero, List.append_nil] at hB
    exact hB

end Go.Proofs.YthofaoabgbgbdaaGreatDoor

namespace Go.Proofs.YthofaoabgbgbdaaGreatDoor
open Go Go.RowKit

theorem goesD_out {t : Lts} {c : List Bool} {k : Int} : (outOf t k).any (fun e => (e.lab == 0) && c.getD e.dst.toNat false) = goesD t c k t.edges.length := by
 unfold outOf goesD
 rw [List.take_length, List.any_filter]
 congr 1
 funext e
 rw [Bool.and_assoc]
/-- What divergent returns: a row of truth values. -/
def RetDv (t : Lts) (w : World) (e : Ending) (w' : World) : Prop :=
 Below w.heap.size w w' ∧ ∃ (g N : Nat) (c : List Bool), e = .returned (.slice (some ⟨g, 0, none⟩) N N) ∧ w.heap.size ≤ g ∧ Blk w' g (c.map Value.bool) 4 ∧ c.length = N ∧ (N : Int) = t.states ∧ ∀ x, 0 ≤ x → x < t.states → (c.getD x.toNat false = true ↔ Diverges t x)
theorem blk_bool {w : World} {g i : Nat} {c : List Bool} (h : Blk w g (c.map Value.bool) 4) (hi : i < c.length) : w.cell? ⟨g, i, none⟩ = some (.bool (c.getD i false)) :=
 h.cell i (by rw [List.getElem?_map, List.getD_eq_getElem?_getD, List.getElem?_eq_getElem hi]; rfl)

set_option maxRecDepth 100000 in
theorem divergent1_any (g ob N : Nat) (c : List Bool) (e : Edge) (w : World) (hc : c.length = N) (hd0 : 0 ≤ e.dst) (hd1 : e.dst < (N : Int)) (hb : Blk w g (c.map Value.bool) 4) (ho : Blk w ob [.slice (some ⟨g, 0, none⟩) N N] 58) :
  Calls Tryz.prog 66 #[.agg #[.int .i64 e.src, .int .i64 e.lab, .int .i64 e.dst], .pointer (some ⟨ob, 0, none⟩)] w fun r w' => r = .returned (.bool ((e.lab == 0) && c.getD e.dst.toNat false)) ∧ Below w.heap.size w w' := by
 obtain ⟨d, hd⟩ : ∃ d : Nat, (d : Int) = e.dst := ⟨e.dst.toNat, by omega⟩
 have hdt : e.dst.toNat = d := by omega
 have hdn : d < N := by omega
 rw [hdt, ← hd]
 obtain ⟨l, hl⟩ : ∃ l, l = e.lab := ⟨_, rfl⟩
 obtain ⟨s, hs⟩ : ∃ s, s = e.src := ⟨_, rfl⟩
 rw [← hl, ← hs]
 have hw : Below w.heap.size w (w.alloc (.cells #[.int .i64 s, .int .i64 l, .int .i64 d] 68)) := (Below.refl _ _).alloc (Nat.le_refl _) _
 have HW := Lib.hid hw
 have o0 := (ho.below hw).cell 0 rfl
 have c0 := blk_bool (hb.below hw) (i := d) (by rw [hc]; exact hdn)
 have hlto := ho.lt
 have hltg := hb.lt
 obtain ⟨b, hb2⟩ : ∃ b, b = c.getD d false := ⟨_, rfl⟩
 rw [← hb2] at c0 ⊢
 clear hd hdt hl hs hw ho hb hb2 hd0 hd1
 cases h : (l == 0)
 ·go_enter Tryz.func66, Tryz.ntmps66
  go_wp2
  go_ret
  exact ⟨rfl, HW.out⟩
 ·go_enter Tryz.func66, Tryz.ntmps66
  go_wp2
  go_ret
  exact ⟨rfl, HW.out⟩

/-- What holds of the marks ahead of a sweep. -/
structure DvRel (t : Lts) (N B ob g : Nat) (w wr : World) (gk : Nat) (b : Bool) (c : List Bool) : Prop where
 len : c.length = N
 ok : DivOk t c
 rest : b = false → ∀ k : Nat, k < c.length → c.getD k false = true → goesD t c k t.edges.length = true
 left : 2 * c.count true + b.toNat ≤ gk
 below : Below B w wr
 row : Blk wr g (c.map Value.bool) 4
 box : Blk wr ob [.slice (some ⟨g, 0, none⟩) N N] 58

set_option maxRecDepth 100000 in
set_option maxHeartbeats 4000000 in
theorem divergent_any (lo : Nat) (t : Lts) (lv ev : Value) (w : World) (hv : Valid t) (hl : SliceK 1 encS lo w lv t.labels) (he : SliceK 3 encE lo w ev t.edges) :
  Calls Tryz.prog 26 #[.agg #[.int .i64 t.states, .int .i64 t.initial, lv, ev]] w (RetDv t w) := by
 obtain ⟨N, hN⟩ : ∃ N : Nat, (N : Int) = t.states := ⟨t.states.toNat, by have := hv.st0; omega⟩
 have hN1 : 1 ≤ N := by have := hv.st0; omega
 have hN2 : N ≤ 40 := by have := hv.st1; omega
 have HV := Lib.hid hv
 obtain ⟨tb, htb⟩ : ∃ tb, tb = w.heap.size := ⟨_, rfl⟩
 obtain ⟨wA, hwA⟩ : ∃ wA, wA = w.alloc (.cells #[.int .i64 t.states, .int .i64 t.initial, lv, ev] 27) := ⟨_, rfl⟩
 have hbA : Below w.heap.size w wA := by rw [hwA]; exact (Below.refl _ _).alloc (Nat.le_refl _) _
 have hT : Blk wA tb [.int .i64 t.states, .int .i64 t.initial, lv, ev] 27 := by rw [hwA, htb]; exact Blk.new w _ _
 rw [← hN] at hT hwA ⊢
 obtain ⟨w1, hw1⟩ : ∃ w1, w1 = wA.alloc (.cells #[.bool true] 4) := ⟨_, rfl⟩
 have hb1 : Below wA.heap.size wA w1 := by rw [hw1]; exact (Below.refl _ _).alloc (Nat.le_refl _) _
 have hsA : wA.heap.size = tb + 1 := by rw [hwA, htb]; simp
 have hx1 : w1.cell? ⟨tb + 1, 0, none⟩ = some (.bool true) := by rw [hw1, ← hsA]; exact (Blk.new wA [.bool true] 4).cell 0 rfl
 have HRP := Lib.hid (Repeat_any N (tb + 1) w1 hN1 hN2 hx1)
 have HT1 := Lib.hid (hT.below hb1)
 have HL := Lib.hid (hl.below hbA)
 have HE := Lib.hid (he.below hbA)
 have HBA := Lib.hid hbA
 have HB1 := Lib.hid (hbA.trans (hb1.mono hbA.size))
 have HA1 := Lib.hid hb1
 have HWA := Lib.hid hwA
 have HW1 := Lib.hid hw1
 have HTB := Lib.hid htb
 have HNN := Lib.hid hN
 clear hv hl he hbA hT hb1 hx1 hwA hw1 hN htb hsA
 go_enter Tryz.func26, Tryz.ntmps26
 go_wp2_with fail
 rw [← HWA.out, ← HW1.out, ← HTB.out]
 refine Calls.mono HRP.out ?_
 rintro e w2 ⟨rfl, hb2, hg2⟩
 obtain ⟨g, hg⟩ : ∃ g, g = w1.heap.size := ⟨_, rfl⟩
 rw [← hg] at hg2 ⊢
 obtain ⟨ob, hob⟩ : ∃ ob, ob = w2.heap.size := ⟨_, rfl⟩
 obtain ⟨w3, hw3⟩ : ∃ w3, w3 = w2.alloc (.cells #[.slice (some ⟨g, 0, none⟩) N N] 58) := ⟨_, rfl⟩
 have hb23 : Below w2.heap.size w2 w3 := by rw [hw3]; exact (Below.refl _ _).alloc (Nat.le_refl _) _
 have HX3 : Hid (Blk w3 ob [.slice (some ⟨g, 0, none⟩) N N] 58) := by unfold Hid; rw [hw3, hob]; exact Blk.new w2 _ _
 have HG3 : Hid (Blk w3 g ((List.replicate N true).map Value.bool) 4) := by unfold Hid; rw [List.map_replicate]; exact hg2.below hb23
 have hA3 : Below wA.heap.size wA w3 := HA1.out.trans ((hb2.trans (hb23.mono hb2.size)).mono HA1.out.size)
 have HA3 := Lib.hid hA3
 have hT3 := HT1.out.below (hb2.trans (hb23.mono hb2.size))
 have HGA : Hid (wA.heap.size ≤ g ∧ tb < wA.heap.size ∧ wA.heap.size ≤ ob ∧ g ≠ ob) := by
  have h1 := HA1.out.size
  have h2 := hg2.lt
  have h3 := hb2.size
  refine ⟨by omega, ?_, by omega, by omega⟩
  have := HWA.out
  rw [this, HTB.out]; simp
 have HT3 := Lib.hid hT3
 have HW3 := Lib.hid hw3
 have HOB := Lib.hid hob
 have HD0 : Hid (DivOk t (List.replicate N true)) := by
  have h := DivOk.start t HV.out.st0
  have e : t.states.toNat = N := by have := HNN.out; omega
  rw [e] at h
  exact h
 clear hb2 hg2 hg hb23 hA3 hT3 hw3 hob HRP
 go_wp2
 try rw [← HW3.out]
 try rw [← HOB.out]
 try rw [← HW3.out]
 go_loopg [4] (2 * N + 1) (fun gk v4 wr => ∃ (c : List Bool) (b : Bool), v4 = .bool b ∧ DvRel t N wA.heap.size ob g wA wr gk b c)
 case atStart => exact ⟨List.replicate N true, true, rfl, by simp, HD0.out, (fun h => by cases h), by simp, HA3.out, HG3.out, HX3.out⟩
 case round =>
  obtain ⟨c, b, rfl, hrel⟩ := hrel
  have HRL := Lib.hid hrel
  have hcl := hrel.len
  have x0 := hrel.box.cell 0 rfl
  have hxl := hrel.box.lt
  clear hrel HD0 HG3 HX3 HA3 HT3
  cases b
  ·have HF : Hid (∀ x, 0 ≤ x → x < t.states → (c.getD x.toNat false = true ↔ Diverges t x)) := fun x h0 h1 => HRL.out.ok.done HV.out (HRL.out.rest rfl) x h0 h1
   go_wp2
   go_ret
   have hsz := HBA.out.size
   exact ⟨HBA.out.trans (HRL.out.below.mono hsz), g, N, c, rfl, Nat.le_trans hsz HGA.out.1, HRL.out.row, hcl, HNN.out, HF.out⟩
  ·go_wp2
   go_loopw [4, 14] (fun v4 v14 wr => ∃ (k : Nat) (b : Bool) (c5 : List Bool), v4 = .bool b ∧ v14 = .int .i64 k ∧ k ≤ N ∧ Less c c5 b ∧ DivOk t c5 ∧ (b = false → ∀ j : Nat, j < k → c5.getD j false = true → goesD t c5 j t.edges.length = true) ∧ Below wA.heap.size wA wr ∧ Blk wr g (c5.map Value.bool) 4 ∧ Blk wr ob [.slice (some ⟨g, 0, none⟩) N N] 58) (fun _ v14 _ => N - (intOf v14).toNat)
   case atStart => exact ⟨0, false, c, rfl, rfl, Nat.zero_le _, Less.refl _, HRL.out.ok, (fun _ j h => by omega), HRL.out.below, HRL.out.row, HRL.out.box⟩
   case round =>
    clear x0 hxl
    obtain ⟨k, b, c5, rfl, rfl, hkN, hless, hdok, hdone, hbl, hrow, hbox⟩ := hrel
    have HL5 := Lib.hid hless
    have HDO := Lib.hid hdok
    have HDN := Lib.hid hdone
    have HBL := Lib.hid hbl
    have HROW := Lib.hid hrow
    have HBOX := Lib.hid hbox
    have hc5 : c5.length = N := by rw [hless.1, hcl]
    by_cases hlt : k < N
    ·have hTr : Blk wr tb [.int .i64 N, .int .i64 t.initial, lv, ev] 27 := by
      have h : Blk wA tb [.int .i64 N, .int .i64 t.initial, lv, ev] 27 := by
       have h2 := HWA.out
       unfold Blk
       rw [h2, HTB.out]
       exact heap_alloc_new w _
      exact h.belowB hbl HGA.out.2.1
     have c0 := hTr.cell 0 rfl
     have c1 := hTr.cell 1 rfl
     have c2 := hTr.cell 2 rfl
     have c3 := hTr.cell 3 rfl
     have HO := Lib.hid (out_any lo t lv ev k wr (by have := HV.out.most; omega) (HE.out.below hbl))
     rw [← HNN.out] at HO
     clear hless hdok hdone hbl hrow hbox hTr
     go_wp2_with fail
     refine Calls.mono HO.out ?_
     rintro e w4 ⟨v4, rfl, hb4, ho4⟩
     have HB4 := Lib.hid (HBL.out.trans (hb4.mono HBL.out.size))
     have hrow4 := HROW.out.below hb4
     have hbox4 := HBOX.out.below hb4
     have HROW4 := Lib.hid hrow4
     have HBOX4 := Lib.hid hbox4
     have hsE : SliceK 3 encE wr.heap.size w4 v4 (outOf t k) := SliceK.of_owns (enc := encE) (e := 68) encE_len rfl ho4
     obtain ⟨oa, oc, rfl, -, -⟩ := owns_slice ho4
     have HCF := Lib.hid (ContainsFuncE wr.heap.size (.slice oa (outOf t k).length oc) (outOf t k) 66 #[.pointer (some ⟨ob, 0, none⟩)] (fun e => (e.lab == 0) && c5.getD e.dst.toNat false) w4 hsE (fun args w => by kernel_rfl) (fun w' hb x hx => divergent1_any g ob N c5 x w' hc5 (outOf_ok HV.out k x hx).d0 (by rw [HNN.out]; exact (outOf_ok HV.out k x hx).d1) (hrow4.below hb) (hbox4.below hb)))
     rw [goesD_out] at HCF
     obtain ⟨gs, hgs⟩ : ∃ gs, gs = goesD t c5 k t.edges.length := ⟨_, rfl⟩
     rw [← hgs] at HCF
     have HGS := Lib.hid hgs
     obtain ⟨on, hon⟩ : ∃ on, on = (outOf t k).length := ⟨_, rfl⟩
     rw [← hon] at HCF ⊢
     clear hb4 ho4 hsE hrow4 hbox4 HO hgs hon c0 c1 c2 c3
     go_wp2_with fail
     refine Calls.mono HCF.out ?_
     rintro e w5 ⟨rfl, hb5⟩
     have HB5 := Lib.hid (HB4.out.trans (hb5.mono HB4.out.size))
     have hrow5 := HROW4.out.below hb5
     have hbox5 := HBOX4.out.below hb5
     have HROW5 := Lib.hid hrow5
     have HBOX5 := Lib.hid hbox5
     have x0 := hbox5.cell 0 rfl
     have y0 := blk_bool hrow5 (i := k) (by rw [hc5]; exact hlt)
     have f0 := hrow5.frozen k
     have hxl := hbox5.lt
     have hyl := hrow5.lt
     clear hb5 hrow5 hbox5 HCF
     cases hck : c5.getD k false
     ·rw [hck] at y0
      have HCK := Lib.hid hck
      clear hck
      go_wp2
      go_roundw
      case rel => exact ⟨k + 1, b, c5, rfl, by go_num, by omega, HL5.out, HDO.out, fun hb j hj hg => by
       by_cases e : j = k
       ·subst e; rw [HCK.out] at hg; cases hg
       ·exact HDN.out hb j (by omega) hg, HB5.out, HROW5.out, HBOX5.out⟩
      case measure => simp [intOf]; omega
     ·rw [hck] at y0
      have HCK := Lib.hid hck
      clear hck
      cases gs
      ·have HDS : Hid (DivOk t (c5.set k false)) := HDO.out.set HV.out HGS.out.symm
       have HLS : Hid (Less c (c5.set k false) true) := by
        have h := HL5.out.trans ((Less.refl c5).set HCK.out)
        rw [Bool.or_true] at h
        exact h
       have HRS : Hid (Blk (w5.setCell ⟨g, k, none⟩ (.bool false)) g ((c5.set k false).map Value.bool) 4) := by
        unfold Hid; rw [List.map_set]; exact HROW5.out.set k _
       have HBS : Hid (Blk (w5.setCell ⟨g, k, none⟩ (.bool false)) ob [.slice (some ⟨g, 0, none⟩) N N] 58) := HBOX5.out.setOther _ _ (fun h => HGA.out.2.2.2 h.symm)
       go_wp2
       go_roundw
       case rel => exact ⟨k + 1, true, c5.set k false, rfl, by go_num, by omega, HLS.out, HDS.out, (fun h => by cases h), HB5.out.setCell HGA.out.1 _, HRS.out, HBS.out⟩
       case measure => simp [intOf]; omega
      ·go_wp2
       go_roundw
       case rel => exact ⟨k + 1, b, c5, rfl, by go_num, by omega, HL5.out, HDO.out, fun hb j hj hg => by
        by_cases e : j = k
        ·subst e; exact HGS.out.symm
        ·exact HDN.out hb j (by omega) hg, HB5.out, HROW5.out, HBOX5.out⟩
       case measure => simp [intOf]; omega
    ·obtain rfl : k = N := by omega
     have HLE : Hid (b = true → c5.count true < c.count true) := fun hb => by
      rcases HL5.out.2 with h | h
      ·exact h.2
      ·rw [hb] at h; cases h.1
     have HEQ : Hid (b = false → c5 = c) := fun hb => by
      rcases HL5.out.2 with h | h
      ·rw [hb] at h; cases h.1
      ·exact h.2
     clear hless hdok hdone hbl hrow hbox
     go_wp2
     go_roundg (2 * c5.count true + b.toNat)
     case measure =>
      have h1 := HRL.out.left
      cases b
      ·have h2 := HEQ.out rfl
       rw [h2]
       simp only [Bool.toNat_true, Bool.toNat_false] at *
       omega
      ·have h2 := HLE.out rfl
       simp only [Bool.toNat_true] at *
       omega
     case rel => exact ⟨c5, b, rfl, hc5, HDO.out, (fun hb j hj hg => HDN.out hb j (by omega) hg), Nat.le_refl _, HBL.out, HROW.out, HBOX.out⟩

end Go.Proofs.YthofaoabgbgbdaaGreatDoor

namespace Go.Proofs.YthofaoabgbgbdaaGreatDoor
open Go Go.RowKit

def DivAns (t : Lts) (xs : List ByteArray) (code : Int) : Prop := DivIs t xs code ∧ xs.length ≤ 2000
theorem DivAns.unique {t : Lts} {xs xs' : List ByteArray} {code code' : Int} (h : DivAns t xs code) (k : DivAns t xs' code') : xs = xs' ∧ code = code' := h.1.unique k.1
theorem DivAns.few {t : Lts} {xs : List ByteArray} {code : Int} (h : DivAns t xs code) : xs.length ≤ 2000 := h.2
def RetFd (t : Lts) (w : World) (e : Ending) (w' : World) : Prop :=
 Below w.heap.size w w' ∧ ∃ (xs : List ByteArray) (code : Int) (v : Value), e = .returned (.tuple #[v, .int .i64 code]) ∧ DivAns t xs code ∧ OwnStrs w.heap.size w' v xs
theorem fd_none {t : Lts} {code : Int} {w w' : World} (hb : Below w.heap.size w w') (h : DivIs t [] code) : RetFd t w (.returned (.tuple #[.slice none 0 0, .int .i64 code])) w' :=
 ⟨hb, [], code, _, rfl, ⟨h, Nat.zero_le _⟩, ⟨rfl, .inl ⟨rfl, rfl⟩⟩⟩

end Go.Proofs.YthofaoabgbgbdaaGreatDoor

namespace Go.Proofs.YthofaoabgbgbdaaGreatDoor
open Go Go.RowKit

set_option maxRecDepth 100000 in
theorem fd11_any (g ob N : Nat) (c : List Bool) (k : Int) (w : World) (hc : c.length = N) (h0 : 0 ≤ k) (h1 : k < (N : Int)) (hb : Blk w g (c.map Value.bool) 4) (ho : Blk w ob [.slice (some ⟨g, 0, none⟩) N N] 58) :
  Calls Tryz.prog 29 #[.int .i64 k, .pointer (some ⟨ob, 0, none⟩)] w fun e w' => e = .returned (.bool (c.getD k.toNat false)) ∧ Below w.heap.size w w' := by
 obtain ⟨d, hd⟩ : ∃ d : Nat, (d : Int) = k := ⟨k.toNat, by omega⟩
 have hdt : k.toNat = d := by omega
 have hdn : d < N := by omega
 rw [hdt, ← hd]
 have o0 := ho.cell 0 rfl
 have c0 := blk_bool hb (i := d) (by rw [hc]; exact hdn)
 obtain ⟨b, hb2⟩ : ∃ b, b = c.getD d false := ⟨_, rfl⟩
 rw [← hb2] at c0 ⊢
 clear hd hdt ho hb hb2 h0 h1
 go_enter Tryz.func29, Tryz.ntmps29
 go_wp2
 go_ret
 exact ⟨rfl, Below.refl _ _⟩
set_option maxRecDepth 100000 in
theorem fd1_any (t : Lts) (g ob N lo2 : Nat) (c : List Bool) (v : Value) (S : List Int) (w : World) (hN : (N : Int) = t.states) (hc : c.length = N) (hdd : ∀ x, 0 ≤ x → x < t.states → (c.getD x.toNat false = true ↔ Diverges t x))
  (hs : SliceK 1 encI lo2 w v S) (hin : ∀ x ∈ S, 0 ≤ x ∧ x < t.states) (hb : Blk w g (c.map Value.bool) 4) (ho : Blk w ob [.slice (some ⟨g, 0, none⟩) N N] 58) :
  Calls Tryz.prog 27 #[v, .pointer (some ⟨ob, 0, none⟩)] w (Decides (∃ x ∈ S, Diverges t x) w) := by
 have HC := Lib.hid (ContainsFuncI lo2 v S 29 #[.pointer (some ⟨ob, 0, none⟩)] (fun x => c.getD x.toNat false) w hs (fun args w => by kernel_rfl) fun w' hb' x hx => fd11_any g ob N c x w' hc (hin x hx).1 (by rw [hN]; exact (hin x hx).2) (hb.below hb') (ho.below hb'))
 have HI : Hid (S.any (fun x => c.getD x.toNat false) = true ↔ ∃ x ∈ S, Diverges t x) := by
  unfold Hid
  rw [List.any_eq_true]
  exact ⟨fun ⟨x, hx, h⟩ => ⟨x, hx, (hdd x (hin x hx).1 (hin x hx).2).1 h⟩, fun ⟨x, hx, h⟩ => ⟨x, hx, (hdd x (hin x hx).1 (hin x hx).2).2 h⟩⟩
 obtain ⟨b, hbb⟩ : ∃ b, b = S.any (fun x => c.getD x.toNat false) := ⟨_, rfl⟩
 rw [← hbb] at HC HI
 clear hs hin hb ho hdd hbb
 go_enter Tryz.func27, Tryz.ntmps27
 go_wp2_with fail
 refine Calls.mono HC.out ?_
 rintro e w1 ⟨rfl, hb1⟩
 have HB1 := Lib.hid hb1
 clear hb1 HC
 go_wp2
 go_ret
 exact ⟨b, rfl, HI.out, HB1.out⟩

set_option maxRecDepth 100000 in
set_option maxHeartbeats 4000000 in
theorem implFirstDivergence_any (lo : Nat) (t : Lts) (lv ev : Value) (w : World) (hsh : Short20 t.labels) (hl : SliceK 1 encS lo w lv t.labels) (he : SliceK 3 encE lo w ev t.edges) (g : Glob w) :
  Calls Tryz.prog 11 #[.agg #[.int .i64 t.states, .int .i64 t.initial, lv, ev]] w (RetFd t w) := by
 obtain ⟨p, hp⟩ : ∃ p, p = w.heap.size := ⟨_, rfl⟩
 obtain ⟨W, hW⟩ : ∃ W, W = w.alloc (.cells #[.int .i64 t.states, .int .i64 t.initial, lv, ev] 27) := ⟨_, rfl⟩
 have hB0 : Below w.heap.size w W := by rw [hW]; exact (Below.refl _ _).alloc (Nat.le_refl _) _
 have hX : Blk W p [.int .i64 t.states, .int .i64 t.initial, lv, ev] 27 := by rw [hW, hp]; exact Blk.new w _ _
 have HVA := Lib.hid (ValidLts_any lo t lv ev W hsh (hl.below hB0) (he.below hB0) (g.below hB0))
 have HL := Lib.hid (hl.below hB0)
 have HE := Lib.hid (he.below hB0)
 have HG := Lib.hid (g.below hB0)
 have HSH := Lib.hid hsh
 have HX := Lib.hid hX
 have HB0 := Lib.hid hB0
 have HW := Lib.hid hW
 have HP := Lib.hid hp
 clear hsh hl he g hB0 hX hW hp
 by_cases hv : Valid t
 ·have HV := Lib.hid hv
  clear hv
  go_enter Tryz.func11, Tryz.ntmps11
  go_wp2_with fail
  rw [← HW.out]
  refine (Decides.yes HVA.out HV.out).mono ?_
  rintro e w1 ⟨rfl, hb1⟩
  have HB1 := Lib.hid hb1
  have x0 := (HX.out.below hb1).cell 0 rfl
  have x1 := (HX.out.below hb1).cell 1 rfl
  have x2 := (HX.out.below hb1).cell 2 rfl
  have x3 := (HX.out.below hb1).cell 3 rfl
  have HD := Lib.hid (divergent_any lo t lv ev w1 HV.out (HL.out.below hb1) (HE.out.below hb1))
  try rw [← HP.out]
  clear hb1 HVA
  go_wp2_with fail
  refine Calls.mono HD.out ?_
  rintro e w2 ⟨hb2, gr, N, c, rfl, hgr, hrow, hcl, hN, hdd⟩
  obtain ⟨w3, hw3⟩ : ∃ w3, w3 = w2.alloc (.cells #[.slice (some ⟨gr, 0, none⟩) N N] 58) := ⟨_, rfl⟩
  obtain ⟨ob, hob⟩ : ∃ ob, ob = w2.heap.size := ⟨_, rfl⟩
  have hb3 : Below w2.heap.size w2 w3 := by rw [hw3]; exact (Below.refl _ _).alloc (Nat.le_refl _) _
  have hbox : Blk w3 ob [.slice (some ⟨gr, 0, none⟩) N N] 58 := by rw [hw3, hob]; exact Blk.new w2 _ _
  have hrow3 := hrow.below hb3
  have hd3 := HB1.out.trans ((hb2.trans (hb3.mono hb2.size)).mono HB1.out.size)
  have HFA := Lib.hid (firstAfter_any lo t lv ev 27 #[.pointer (some ⟨ob, 0, none⟩)] (fun S => ∃ x ∈ S, Diverges t x) w3 HV.out HSH.out (HL.out.below hd3) (HE.out.below hd3) (HG.out.below hd3) (fun args w => by kernel_rfl)
   (fun w' hb lo2 v S hs hin _ => fd1_any t gr ob N lo2 c v S w' hN hcl hdd hs hin (hrow3.below hb) (hbox.below hb)))
  have HD3 := Lib.hid hd3
  have HW3 := Lib.hid hw3
  have HOB := Lib.hid hob
  clear x0 x1 x2 x3
  have x0 := (HX.out.below hd3).cell 0 rfl
  have x1 := (HX.out.below hd3).cell 1 rfl
  have x2 := (HX.out.below hd3).cell 2 rfl
  have x3 := (HX.out.below hd3).cell 3 rfl
  have hxl := (HX.out.below hd3).lt
  rw [hw3] at x0 x1 x2 x3 hxl
  clear hb2 hrow hcl hN hdd hb3 hbox hrow3 hd3 hw3 hob HD hgr
  go_wp2_with fail
  try rw [← HW3.out]
  try rw [← HOB.out]
  try rw [← HW3.out]
  refine Calls.mono HFA.out ?_
  rintro e w4 ⟨hb4, ⟨hf, rfl⟩ | ⟨st, r, xs, v, hok, rfl, hfi, hown⟩⟩
  ·have HFU := Lib.hid hf
   have HB4 := Lib.hid (HB0.out.trans ((HD3.out.trans (hb4.mono HD3.out.size)).mono HB0.out.size))
   clear hf hb4 x0 x1 x2 x3 hxl HFA
   go_wp2
   go_ret2
   exact fd_none HB4.out (.inr (.inl ⟨HV.out, HFU.out, rfl, rfl⟩))
  ·have HB4 := Lib.hid (HB0.out.trans ((HD3.out.trans (hb4.mono HD3.out.size)).mono HB0.out.size))
   have HOK := Lib.hid hok
   have HFI := Lib.hid hfi
   have HOW := Lib.hid (OwnStrs.lower hown (Nat.le_trans HB0.out.size HD3.out.size))
   obtain ⟨va, vc, rfl, -, -⟩ := owns_slice hown
   clear hb4 hok hfi hown x0 x1 x2 x3 hxl HFA
   cases r
   ·have HN : Hid (NoWord ((0 : Int), (0 : Int)) (goBoth (dSys t st) (dSys t st) t.labels) (t.labels.length - 1) (liveF fun p => divIn t st p.1)) := by
     rcases HFI.out.2 with ⟨h, -, -⟩ | ⟨u, -, h, -⟩
     ·exact h
     ·cases h
    go_wp2
    go_ret2
    exact fd_none HB4.out (.inr (.inr ⟨HV.out, st, HOK.out, .inl ⟨HN.out, rfl, rfl⟩⟩))
   ·obtain ⟨u, hle, hxs⟩ : ∃ u, Least ((0 : Int), (0 : Int)) (goBoth (dSys t st) (dSys t st) t.labels) (t.labels.length - 1) (liveF fun p => divIn t st p.1) u ∧ xs = txtsOf t.labels u := by
     rcases HFI.out.2 with ⟨-, h, -⟩ | ⟨u, h1, -, h2⟩
     ·cases h
     ·exact ⟨u, h1, h2⟩
    have HLE := Lib.hid hle
    have HXS := Lib.hid hxs
    have HFW := Lib.hid HFI.out.1
    clear hle hxs
    go_wp2
    go_ret2
    exact ⟨HB4.out, xs, 0, _, rfl, ⟨.inr (.inr ⟨HV.out, st, HOK.out, .inr ⟨u, HLE.out, HXS.out, rfl⟩⟩), HFW.out⟩, HOW.out⟩
 ·have HV := Lib.hid hv
  clear hv
  go_enter Tryz.func11, Tryz.ntmps11
  go_wp2_with fail
  rw [← HW.out]
  refine (Decides.no HVA.out HV.out).mono ?_
  rintro e w1 ⟨rfl, hb1⟩
  have HB1 := Lib.hid (HB0.out.trans (hb1.mono HB0.out.size))
  clear hb1 HVA
  go_wp2
  go_ret2
  exact fd_none HB1.out (.inl ⟨HV.out, rfl, rfl⟩)

end Go.Proofs.YthofaoabgbgbdaaGreatDoor
