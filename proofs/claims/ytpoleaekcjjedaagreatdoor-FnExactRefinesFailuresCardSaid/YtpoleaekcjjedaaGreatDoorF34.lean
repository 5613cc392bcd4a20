/-
  The implementation's RefinesFailures.
  The reference's RefinesFailures.
  A list of texts of the call's own: marked, held.
-/
import Derived.Test.YtpoleaekcjjedaaGreatDoorF23
import Derived.Test.YtpoleaekcjjedaaGreatDoorF17
import Derived.Test.YtpoleaekcjjedaaGreatDoorF27
import Derived.Test.YtpoleaekcjjedaaGreatDoorF28
import Derived.Test.YtpoleaekcjjedaaGreatDoorF11
namespace Go.Proofs.YtpoleaekcjjedaaGreatDoor
open Go Go.RowKit

set_option maxRecDepth 100000 in
set_option maxHeartbeats 4000000 in
theorem implRefinesFailures_any (lo : Nat) (a : Lts) (la ea : Value) (b : Lts) (lb eb : Value) (w : World) (hsa : Short20 a.labels) (hsb : Short20 b.labels) (hal : SliceK 1 encS lo w la a.labels) (hae : SliceK 3 encE lo w ea a.edges)
  (hbl : SliceK 1 encS lo w lb b.labels) (hbe : SliceK 3 encE lo w eb b.edges) (g : Glob w) :
  Calls Tryz.prog 30 #[.agg #[.int .i64 a.states, .int .i64 a.initial, la, ea], .agg #[.int .i64 b.states, .int .i64 b.initial, lb, eb]] w (RetRef a b w) := by
 obtain ⟨p, hp⟩ : ∃ p, p = w.heap.size := ⟨_, rfl⟩
 obtain ⟨W, hW⟩ : ∃ W, W = (w.alloc (.cells #[.int .i64 a.states, .int .i64 a.initial, la, ea] 31)).alloc (.cells #[.int .i64 b.states, .int .i64 b.initial, lb, eb] 31) := ⟨_, rfl⟩
 have hB0 : Below w.heap.size w W := by rw [hW]; exact ((Below.refl _ _).alloc (Nat.le_refl _) _).alloc (by simp) _
 have hA : Blk W p [.int .i64 a.states, .int .i64 a.initial, la, ea] 31 := by rw [hW, hp]; exact (Blk.new w _ _).alloc _
 have hBb : Blk W (p + 1) [.int .i64 b.states, .int .i64 b.initial, lb, eb] 31 := by
  have := Blk.new (w.alloc (.cells #[.int .i64 a.states, .int .i64 a.initial, la, ea] 31)) [.int .i64 b.states, .int .i64 b.initial, lb, eb] 31
  rw [World.size_alloc, ← hp] at this
  rw [hW]
  exact this
 have HVA := Lib.hid (ValidLts_any lo a la ea W hsa (hal.below hB0) (hae.below hB0) (g.below hB0))
 have HVB := Lib.hid (fun w' (hb : Below W.heap.size W w') => ValidLts_any lo b lb eb w' hsb ((hbl.below hB0).below hb) ((hbe.below hB0).below hb) ((g.below hB0).below hb))
 have HRF := Lib.hid (fun w' (hb : Below W.heap.size W w') (ha : Valid a) (hb' : Valid b) => refinement_any lo a b la ea lb eb w' ha hb' hsa hsb ((hal.below hB0).below hb) ((hae.below hB0).below hb) ((hbl.below hB0).below hb) ((hbe.below hB0).below hb) ((g.below hB0).below hb))
 have HRG := Lib.hid (fun w' (hb : Below W.heap.size W w') (ha : Valid a) (hb' : Valid b) => refinement_any lo b a lb eb la ea w' hb' ha hsb hsa ((hbl.below hB0).below hb) ((hbe.below hB0).below hb) ((hal.below hB0).below hb) ((hae.below hB0).below hb) ((g.below hB0).below hb))
 have HA := Lib.hid hA
 have HB := Lib.hid hBb
 have HB0 := Lib.hid hB0
 have HW := Lib.hid hW
 have HP := Lib.hid hp
 clear hsa hsb hal hae hbl hbe g hA hBb hB0 hW hp
 by_cases hva : Valid a
 ·have HV1 := Lib.hid hva
  by_cases hvb : Valid b
  ·have HV2 := Lib.hid hvb
   clear hva hvb
   go_enter Tryz.func30, Tryz.ntmps30
   go_wp2_with fail
   rw [← HW.out]
   refine (Decides.yes HVA.out HV1.out).mono ?_
   rintro e w1 ⟨rfl, hb1⟩
   have HB1 := Lib.hid hb1
   have x0 := (HB.out.below hb1).cell 0 rfl
   have x1 := (HB.out.below hb1).cell 1 rfl
   have x2 := (HB.out.below hb1).cell 2 rfl
   have x3 := (HB.out.below hb1).cell 3 rfl
   rw [← HP.out]
   clear hb1 HVA
   go_wp2_with fail
   refine (Decides.yes (HVB.out _ HB1.out) HV2.out).mono ?_
   rintro e w2 ⟨rfl, hb2⟩
   have hd2 := HB1.out.trans (hb2.mono HB1.out.size)
   have HD2 := Lib.hid hd2
   clear x0 x1 x2 x3
   have x0 := (HA.out.below hd2).cell 0 rfl
   have x1 := (HA.out.below hd2).cell 1 rfl
   have x2 := (HA.out.below hd2).cell 2 rfl
   have x3 := (HA.out.below hd2).cell 3 rfl
   have y0 := (HB.out.below hd2).cell 0 rfl
   have y1 := (HB.out.below hd2).cell 1 rfl
   have y2 := (HB.out.below hd2).cell 2 rfl
   have y3 := (HB.out.below hd2).cell 3 rfl
   clear hb2 hd2 HVB HB1
   go_wp2_with fail
   refine Calls.mono (HRF.out _ HD2.out HV1.out HV2.out) ?_
   rintro e w3 ⟨ok, r, v1, v2, rfl, hb3, hret⟩
   have HD3 := Lib.hid (HD2.out.trans (hb3.mono HD2.out.size))
   have HBF := Lib.hid (HB0.out.trans (HD3.out.mono HB0.out.size))
   have HRET := Lib.hid hret
   have HLO : Hid (w.heap.size ≤ w2.heap.size) := Nat.le_trans HB0.out.size HD2.out.size
   clear hb3 hret x0 x1 x2 x3 y0 y1 y2 y3
   cases ok with
   | false =>
    have HF : Hid (DFull a ∨ DFull b) := by
     rcases HRET.out with ⟨-, h⟩ | ⟨h, -⟩
     ·exact h
     ·cases h
    go_wp2
    ((try simp only [Exit.inBlock, Exit.then]); refine bodyPost_ret (results_tmp4 rfl _ _ _) rfl ?_)
    exact ref_none HBF.out (.inr (.inl ⟨⟨HV1.out, HV2.out⟩, HF.out, rfl, rfl, rfl, rfl⟩))
   | true =>
    obtain ⟨sa, sb, xs, ys, h1, h2, h3, h4, h5, h6, h7⟩ : ∃ sa sb xs ys, DOk a sa ∧ DOk b sb ∧ RefB a b sa sb r xs ys ∧ xs.length ≤ 2000 ∧ OwnStrs w2.heap.size w3 v1 xs ∧ OwnStrs w2.heap.size w3 v2 ys ∧ Far v1 v2 := by
     rcases HRET.out with ⟨h, -⟩ | ⟨-, h⟩
     ·cases h
     ·exact h
    have HAN := Lib.hid (ref_some HV1.out HV2.out h1 h2 h3 h4)
    have HO1 := Lib.hid (OwnStrs.lower h5 HLO.out)
    have HO2 := Lib.hid (OwnStrs.lower h6 HLO.out)
    have HFAR := Lib.hid h7
    obtain ⟨a1, c1, rfl, -, -⟩ := owns_slice h5
    obtain ⟨a2, c2, rfl, -, -⟩ := owns_slice h6
    clear h1 h2 h3 h4 h5 h6 h7 HRET
    go_wp2
    ((try simp only [Exit.inBlock, Exit.then]); refine bodyPost_ret (results_tmp4 rfl _ _ _) rfl ?_)
    exact ⟨HBF.out, r, xs, ys, 0, _, _, rfl, HAN.out, HO1.out, HO2.out, HFAR.out⟩
  ·have HV2 := Lib.hid hvb
   clear hva hvb
   go_enter Tryz.func30, Tryz.ntmps30
   go_wp2_with fail
   rw [← HW.out]
   refine (Decides.yes HVA.out HV1.out).mono ?_
   rintro e w1 ⟨rfl, hb1⟩
   have HB1 := Lib.hid hb1
   have x0 := (HB.out.below hb1).cell 0 rfl
   have x1 := (HB.out.below hb1).cell 1 rfl
   have x2 := (HB.out.below hb1).cell 2 rfl
   have x3 := (HB.out.below hb1).cell 3 rfl
   rw [← HP.out]
   clear hb1 HVA
   go_wp2_with fail
   refine (Decides.no (HVB.out _ HB1.out) HV2.out).mono ?_
   rintro e w2 ⟨rfl, hb2⟩
   have HD2 := Lib.hid (HB0.out.trans ((HB1.out.trans (hb2.mono HB1.out.size)).mono HB0.out.size))
   clear hb2 x0 x1 x2 x3
   go_wp2
   ((try simp only [Exit.inBlock, Exit.then]); refine bodyPost_ret (results_tmp4 rfl _ _ _) rfl ?_)
   exact ref_none HD2.out (.inl ⟨fun h => HV2.out h.2, rfl, rfl, rfl, rfl⟩)
 ·have HV1 := Lib.hid hva
  clear hva
  go_enter Tryz.func30, Tryz.ntmps30
  go_wp2_with fail
  rw [← HW.out]
  refine (Decides.no HVA.out HV1.out).mono ?_
  rintro e w1 ⟨rfl, hb1⟩
  have HD1 := Lib.hid (HB0.out.trans (hb1.mono HB0.out.size))
  clear hb1 HVA
  go_wp2
  ((try simp only [Exit.inBlock, Exit.then]); refine bodyPost_ret (results_tmp4 rfl _ _ _) rfl ?_)
  exact ref_none HD1.out (.inl ⟨fun h => HV1.out h.1, rfl, rfl, rfl, rfl⟩)

end Go.Proofs.YtpoleaekcjjedaaGreatDoor

namespace Go.Proofs.YtpoleaekcjjedaaGreatDoor
open Go Go.RowKit

set_option maxRecDepth 100000 in
set_option maxHeartbeats 4000000 in
theorem specRefinesFailures_any (lo : Nat) (a b : Lts) (la ea lb eb : Value) (w : World) (hsa : Short a.labels) (hsb : Short b.labels) (ha : LtsIn lo w la ea a) (hb : LtsIn lo w lb eb b) :
  Calls Tryz.prog 29 #[.agg #[.int .i64 a.states, .int .i64 a.initial, la, ea], .agg #[.int .i64 b.states, .int .i64 b.initial, lb, eb]] w (RetRef a b w) := by
 obtain ⟨W1, hW1⟩ : ∃ W1, W1 = w.alloc (.cells #[.int .i64 a.states, .int .i64 a.initial, la, ea] 31) := ⟨_, rfl⟩
 obtain ⟨W, hW⟩ : ∃ W, W = W1.alloc (.cells #[.int .i64 b.states, .int .i64 b.initial, lb, eb] 31) := ⟨_, rfl⟩
 have hB1 : Below w.heap.size w W1 := by rw [hW1]; exact (Below.refl _ _).alloc (Nat.le_refl _) _
 have hB2 : Below W1.heap.size W1 W := by rw [hW]; exact (Below.refl _ _).alloc (Nat.le_refl _) _
 have hB0 : Below w.heap.size w W := hB1.trans (hB2.mono hB1.size)
 have e1 : Blk W1 w.heap.size [.int .i64 a.states, .int .i64 a.initial, la, ea] 31 := by rw [hW1]; exact Blk.new w _ _
 have e2 : Blk W W1.heap.size [.int .i64 b.states, .int .i64 b.initial, lb, eb] 31 := by rw [hW]; exact Blk.new W1 _ _
 have HPA := Lib.hid ((ha.below hB0).ptr (e1.below hB2))
 have HPB := Lib.hid ((hb.below hB0).ptr e2)
 have HB0 := Lib.hid hB0
 have HS1 : Hid (W1.heap.size = w.heap.size + 1) := by unfold Hid; rw [hW1]; simp
 have HWW : Hid (W = (w.alloc (.cells #[.int .i64 a.states, .int .i64 a.initial, la, ea] 31)).alloc (.cells #[.int .i64 b.states, .int .i64 b.initial, lb, eb] 31)) := by unfold Hid; rw [hW, hW1]
 have HSA := Lib.hid hsa
 have HSB := Lib.hid hsb
 rw [HS1.out] at HPB
 clear hsa hsb ha hb hW1 hW hB1 hB2 hB0 e1 e2
 by_cases hva : Valid a
 ·have HVA := Lib.hid hva
  by_cases hvb : Valid b
  ·have HVB := Lib.hid hvb
   clear hva hvb
   go_enter Tryz.func29, Tryz.ntmps29
   go_wp2_with fail
   rw [← HWW.out]
   refine (Decides.yes (l11Is_any _ lo a _ HSA.out HPA.out) HVA.out).mono ?_
   rintro e w1 ⟨rfl, hb1⟩
   have HB1 := Lib.hid hb1
   clear hb1
   go_wp2_with fail
   refine (Decides.yes (l11Is_any _ lo b _ HSB.out (HPB.out.below HB1.out)) HVB.out).mono ?_
   rintro e w2 ⟨rfl, hb2⟩
   have HB2 := Lib.hid (HB1.out.trans (hb2.mono HB1.out.size))
   clear hb2
   go_wp2_with fail
   refine Calls.mono (l18Differ_any _ _ lo a b _ HVA.out HVB.out (HPA.out.below HB2.out) (HPB.out.below HB2.out)) ?_
   rintro e w3 ⟨ok, d, v1, v2, rfl, hb3, hret⟩
   have HB3 := Lib.hid (HB2.out.trans (hb3.mono HB2.out.size))
   have HBF := Lib.hid (HB0.out.trans (HB3.out.mono HB0.out.size))
   have HRET := Lib.hid hret
   have HLO : Hid (w.heap.size ≤ w2.heap.size) := Nat.le_trans HB0.out.size HB2.out.size
   clear hb3 hret
   cases ok with
   | false =>
    have HF : Hid (DFull a ∨ DFull b) := by
     rcases HRET.out with ⟨-, h⟩ | ⟨h, -⟩
     ·exact h
     ·cases h
    go_wp2
    ((try simp only [Exit.inBlock, Exit.then]); refine bodyPost_ret (results_tmp4 rfl _ _ _) rfl ?_)
    exact ref_none HBF.out (.inr (.inl ⟨⟨HVA.out, HVB.out⟩, HF.out, rfl, rfl, rfl, rfl⟩))
   | true =>
    obtain ⟨sa, sb, xs, ys, h1, h2, h3, h4, h5, h6, h7⟩ : ∃ sa sb xs ys, DOk a sa ∧ DOk b sb ∧ RefB a b sa sb (!d) xs ys ∧ xs.length ≤ 2000 ∧ OwnStrs w2.heap.size w3 v1 xs ∧ OwnStrs w2.heap.size w3 v2 ys ∧ Far v1 v2 := by
     rcases HRET.out with ⟨h, -⟩ | ⟨-, h⟩
     ·cases h
     ·exact h
    have HAN := Lib.hid (ref_some HVA.out HVB.out h1 h2 h3 h4)
    have HO1 := Lib.hid (OwnStrs.lower h5 HLO.out)
    have HO2 := Lib.hid (OwnStrs.lower h6 HLO.out)
    have HFAR := Lib.hid h7
    obtain ⟨a1, c1, rfl, -, -⟩ := owns_slice h5
    obtain ⟨a2, c2, rfl, -, -⟩ := owns_slice h6
    clear h1 h2 h3 h4 h5 h6 h7 HRET
    go_wp2
    ((try simp only [Exit.inBlock, Exit.then]); refine bodyPost_ret (results_tmp4 rfl _ _ _) rfl ?_)
    exact ⟨HBF.out, !d, xs, ys, 0, _, _, rfl, HAN.out, HO1.out, HO2.out, HFAR.out⟩
  ·have HVB := Lib.hid hvb
   clear hva hvb
   go_enter Tryz.func29, Tryz.ntmps29
   go_wp2_with fail
   rw [← HWW.out]
   refine (Decides.yes (l11Is_any _ lo a _ HSA.out HPA.out) HVA.out).mono ?_
   rintro e w1 ⟨rfl, hb1⟩
   have HB1 := Lib.hid hb1
   clear hb1
   go_wp2_with fail
   refine (Decides.no (l11Is_any _ lo b _ HSB.out (HPB.out.below HB1.out)) HVB.out).mono ?_
   rintro e w2 ⟨rfl, hb2⟩
   have HB2 := Lib.hid (HB0.out.trans ((HB1.out.trans (hb2.mono HB1.out.size)).mono HB0.out.size))
   clear hb2
   go_wp2
   ((try simp only [Exit.inBlock, Exit.then]); refine bodyPost_ret (results_tmp4 rfl _ _ _) rfl ?_)
   exact ref_none HB2.out (.inl ⟨fun h => HVB.out h.2, rfl, rfl, rfl, rfl⟩)
 ·have HVA := Lib.hid hva
  clear hva
  go_enter Tryz.func29, Tryz.ntmps29
  go_wp2_with fail
  rw [← HWW.out]
  refine (Decides.no (l11Is_any _ lo a _ HSA.out HPA.out) HVA.out).mono ?_
  rintro e w1 ⟨rfl, hb1⟩
  have HB1 := Lib.hid (HB0.out.trans (hb1.mono HB0.out.size))
  clear hb1
  go_wp2
  ((try simp only [Exit.inBlock, Exit.then]); refine bodyPost_ret (results_tmp4 rfl _ _ _) rfl ?_)
  exact ref_none HB1.out (.inl ⟨fun h => HVA.out h.1, rfl, rfl, rfl, rfl⟩)

end Go.Proofs.YtpoleaekcjjedaaGreatDoor

namespace Go.Proofs.YtpoleaekcjjedaaGreatDoor
open Go Go.RowKit

theorem markStrs_is (lo : Nat) (v : Value) (xs : List ByteArray) (k : Int) (w : World) (h1 : 0 ≤ k) (h2 : k + (xs.length : Int) ≤ 1000000000) (hlo : lo ≤ w.heap.size) (hv : OwnStrs lo w v xs) :
  Calls Tryz.prog 21 #[v, .int .i64 k] w fun e w' => e = .returned (.int .i64 (k + (xs.length : Int))) ∧ Below lo w w' ∧ OwnStrs lo w' v (mrkS k xs.length) ∧ Only [9] w w' := by
 have h := markStringS_is lo v (txts xs) k w h1 (by rw [txts_len]; exact h2) (by rw [txts_len]; exact hv)
 rw [txts_len] at h
 refine h.mono ?_
 rintro e w' ⟨rfl, hg, ho⟩
 refine ⟨rfl, below_grown hg hlo (fun b e => (World.ownsRow.lt hv b e).1), ?_, Only.grown hv hg⟩
 unfold OwnStrs
 rw [mrkS_len]
 exact ho
theorem markStrs_is2 (lo : Nat) (v : Value) (xs : List ByteArray) (k : Int) (w : World) (h1 : 0 ≤ k) (h2 : k + (xs.length : Int) ≤ 1000000000) (hlo : lo ≤ w.heap.size) (hv : OwnStrs lo w v xs) :
  Calls Tryz.prog 21 #[v, .int .i64 k] w fun e w' => e = .returned (.int .i64 (k + (xs.length : Int))) ∧ Below lo w w' ∧ OwnStrs lo w' v (mrkS k xs.length) ∧ Only [9] w w' ∧ w.grownBy w' v.ownBlock := by
 have h := markStringS_is lo v (txts xs) k w h1 (by rw [txts_len]; exact h2) (by rw [txts_len]; exact hv)
 rw [txts_len] at h
 refine h.mono ?_
 rintro e w' ⟨rfl, hg, ho⟩
 refine ⟨rfl, below_grown hg hlo (fun b e => (World.ownsRow.lt hv b e).1), ?_, Only.grown hv hg, hg⟩
 unfold OwnStrs
 rw [mrkS_len]
 exact ho
theorem OwnStrs.keptG {lo : Nat} {w w' : World} {v : Value} {xs : List ByteArray} {row : Option Nat} (h : OwnStrs lo w v xs) (hg : w.grownBy w' row) (hr : v.ownBlock = none ∨ v.ownBlock ≠ row) : OwnStrs lo w' v xs := World.ownsRow.kept h hg hr
theorem heldStrs_is (lo : Nat) (v : Value) (xs : List ByteArray) (k : Int) (w : World) (h1 : 0 ≤ k) (h2 : k + (xs.length : Int) ≤ 1000000000) (hv : OwnStrs lo w v (mrkS k xs.length)) :
  Calls Tryz.prog 22 #[v, .int .i64 k] w fun e w' => e = .returned (.int .i64 (k + (xs.length : Int))) ∧ Below w.heap.size w w' :=
 heldStringS_is v lo xs.length k w h1 h2 hv.at


end Go.Proofs.YtpoleaekcjjedaaGreatDoor
