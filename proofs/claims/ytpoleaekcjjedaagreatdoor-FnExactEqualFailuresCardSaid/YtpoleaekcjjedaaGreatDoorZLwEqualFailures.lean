/-
  For all arguments the law FnExactEqualFailures answers true: the walk that joins both sides.
-/
import Derived.Test.YtpoleaekcjjedaaGreatDoorF23
import Derived.Test.YtpoleaekcjjedaaGreatDoorF28
import Derived.Test.YtpoleaekcjjedaaGreatDoorF29
import Derived.Deep.RegionHeld3
namespace Go.Proofs.YtpoleaekcjjedaaGreatDoor
open Go Go.RowKit

set_option maxRecDepth 100000 in
set_option maxHeartbeats 4000000 in
theorem lawEqualFailures (lo : Nat) (t1 : Lts) (l1 e1 : Value) (t2 : Lts) (l2 e2 : Value) (w : World) (hs1 : SliceK 1 encS lo w l1 t1.labels) (he1 : SliceK 3 encE lo w e1 t1.edges) (hk1 : StrsOk t1.labels) (hs2 : SliceK 1 encS lo w l2 t2.labels) (he2 : SliceK 3 encE lo w e2 t2.edges) (hk2 : StrsOk t2.labels) (g : Glob w) :
  Calls Tryz.prog 6 #[.agg #[.int .i64 t1.states, .int .i64 t1.initial, l1, e1], .agg #[.int .i64 t2.states, .int .i64 t2.initial, l2, e2]] w fun e w' => e = .returned (.bool true) ∧ Below w.heap.size w w' := by
 obtain ⟨n0, hn0⟩ : ∃ n0, n0 = w.heap.size := ⟨_, rfl⟩
 obtain ⟨W1, hW1⟩ : ∃ W1, W1 = ((w.alloc (.cells #[.int .i64 t1.states, .int .i64 t1.initial, l1, e1] 25)).alloc (.cells #[.int .i64 t2.states, .int .i64 t2.initial, l2, e2] 25)) := ⟨_, rfl⟩
 have hB1 : Below w.heap.size w W1 := by rw [hW1]; exact (((Below.refl _ _).alloc (by simp) _).alloc (by simp) _)
 have hX1 : Blk W1 (n0) [.int .i64 t1.states, .int .i64 t1.initial, l1, e1] 25 := by
  have h := Blk.new w [.int .i64 t1.states, .int .i64 t1.initial, l1, e1] 25
  rw [← hn0] at h
  rw [hW1]
  exact h.alloc _
 have hX2 : Blk W1 (n0 + 1) [.int .i64 t2.states, .int .i64 t2.initial, l2, e2] 25 := by
  have h := Blk.new (w.alloc (.cells #[.int .i64 t1.states, .int .i64 t1.initial, l1, e1] 25)) [.int .i64 t2.states, .int .i64 t2.initial, l2, e2] 25
  rw [World.size_alloc, ← hn0] at h
  rw [hW1]
  exact h
 have HS1 := Lib.hid (hs1.below hB1)
 have HE1 := Lib.hid (he1.below hB1)
 have K1 := Lib.hid hk1
 have X1 := Lib.hid hX1
 have HS2 := Lib.hid (hs2.below hB1)
 have HE2 := Lib.hid (he2.below hB1)
 have K2 := Lib.hid hk2
 have X2 := Lib.hid hX2
 have HG := Lib.hid (g.below hB1)
 have HB1 := Lib.hid hB1
 have HW1 := Lib.hid hW1
 have HN0 := Lib.hid hn0
 clear g hB1 hW1 hn0 hs1 he1 hk1 hX1 hs2 he2 hk2 hX2
 have HC1 := Lib.hid (fun w' (hb : Below W1.heap.size W1 w') => szLts_any (.agg #[.int .i64 t1.states, .int .i64 t1.initial, l1, e1]) lo t1 1048576 w' (by decide) (by decide) K1.out ⟨l1, e1, rfl, HS1.out.below hb, HE1.out.below hb⟩)
 by_cases c1 : szL t1 1048576 < 0
 ·clear HG 
  go_enter Tryz.func6, Tryz.ntmps6
  go_wp2_with fail
  rw [← HW1.out]
  refine Calls.mono (HC1.out _ (Below.refl _ _)) ?_
  rintro e y1 ⟨rfl, hb1⟩
  have D1 := Lib.hid hb1
  clear hb1
  go_wp2_with fail
  go_ret
  exact ⟨rfl, HB1.out.trans (D1.out.mono HB1.out.size)⟩
 have hfit1 := szL_fit (t := t1) (left := 1048576) (by decide) (by omega)
 obtain ⟨M1, hM1⟩ : ∃ M1, M1 = szL t1 1048576 := ⟨_, rfl⟩
 rw [← hM1] at c1 hfit1 HC1
 have HMM1 := Lib.hid hM1
 clear hM1
 have hLz1 : 0 ≤ M1 := by omega
 have hLe1 : M1 ≤ 1048576 := by omega
 have HC2 := Lib.hid (fun w' (hb : Below W1.heap.size W1 w') => szLts_any (.agg #[.int .i64 t2.states, .int .i64 t2.initial, l2, e2]) lo t2 M1 w' hLz1 hLe1 K2.out ⟨l2, e2, rfl, HS2.out.below hb, HE2.out.below hb⟩)
 by_cases c2 : szL t2 M1 < 0
 ·clear HG hLe1 hfit1
  go_enter Tryz.func6, Tryz.ntmps6
  go_wp2_with fail
  rw [← HW1.out]
  refine Calls.mono (HC1.out _ (Below.refl _ _)) ?_
  rintro e y1 ⟨rfl, hb1⟩
  have D1 := Lib.hid hb1
  obtain ⟨x0, x1, x2, x3⟩ := blk4 (X2.out.below D1.out)
  rw [← HN0.out]
  clear hb1
  go_wp2_with fail
  refine Calls.mono (HC2.out _ D1.out) ?_
  rintro e y2 ⟨rfl, hb2⟩
  have D2 := Lib.hid (D1.out.trans (hb2.mono D1.out.size))
  clear x0 x1 x2 x3
  clear hb2
  go_wp2_with fail
  go_ret
  exact ⟨rfl, HB1.out.trans (D2.out.mono HB1.out.size)⟩
 have hfit2 := szL_fit (t := t2) (left := M1) hLz1 (by omega)
 obtain ⟨M2, hM2⟩ : ∃ M2, M2 = szL t2 M1 := ⟨_, rfl⟩
 rw [← hM2] at c2 hfit2 HC2
 have HMM2 := Lib.hid hM2
 clear hM2
 have hLz2 : 0 ≤ M2 := by omega
 have hLe2 : M2 ≤ 1048576 := by omega
 have hll1 : t1.labels.length ≤ 1048576 := by omega
 have hel1 : t1.edges.length ≤ 1048576 := by omega
 have J1 : Hid (Short20 t1.labels) := fun i hi => by have := hfit1.2.2.1 _ (List.getElem_mem hi); omega
 have I1 : Hid (Short t1.labels) := fun i hi => Nat.le_trans (J1.out i hi) (by decide)
 have HT1 : Hid (∀ w', Below W1.heap.size W1 w' → Calls Tryz.prog 16 #[.agg #[.int .i64 t1.states, .int .i64 t1.initial, l1, e1]] w' (CopyMade t1 w')) := fun w' hb => copy_any lo t1 _ _ w' hll1 hel1 (HS1.out.below hb) (HE1.out.below hb)
 have HLN1 : Hid (t1.labels.length ≤ 1048576 ∧ t1.edges.length ≤ 1048576) := ⟨hll1, hel1⟩
 have hll2 : t2.labels.length ≤ 1048576 := by omega
 have hel2 : t2.edges.length ≤ 1048576 := by omega
 have J2 : Hid (Short20 t2.labels) := fun i hi => by have := hfit2.2.2.1 _ (List.getElem_mem hi); omega
 have I2 : Hid (Short t2.labels) := fun i hi => Nat.le_trans (J2.out i hi) (by decide)
 have HT2 : Hid (∀ w', Below W1.heap.size W1 w' → Calls Tryz.prog 16 #[.agg #[.int .i64 t2.states, .int .i64 t2.initial, l2, e2]] w' (CopyMade t2 w')) := fun w' hb => copy_any lo t2 _ _ w' hll2 hel2 (HS2.out.below hb) (HE2.out.below hb)
 have HLN2 : Hid (t2.labels.length ≤ 1048576 ∧ t2.edges.length ≤ 1048576) := ⟨hll2, hel2⟩
 have HSPEC : Hid (∀ (a1 b1 : Value) (a2 b2 : Value) (w' : World), SliceK 1 encS 0 w' a1 t1.labels → SliceK 3 encE 0 w' b1 t1.edges → SliceK 1 encS 0 w' a2 t2.labels → SliceK 3 encE 0 w' b2 t2.edges → Calls Tryz.prog 27 #[.agg #[.int .i64 t1.states, .int .i64 t1.initial, a1, b1], .agg #[.int .i64 t2.states, .int .i64 t2.initial, a2, b2]] w' (RetEqf t1 t2 w')) := fun _ _ _ _ w' h1 k1 h2 k2 => specEqualFailures_any 0 t1 t2 _ _ _ _ w' I1.out I2.out ⟨h1, k1⟩ ⟨h2, k2⟩
 have HIMPL : Hid (∀ (a1 b1 : Value) (a2 b2 : Value) (w' : World), SliceK 1 encS 0 w' a1 t1.labels → SliceK 3 encE 0 w' b1 t1.edges → SliceK 1 encS 0 w' a2 t2.labels → SliceK 3 encE 0 w' b2 t2.edges → Glob w' → Calls Tryz.prog 28 #[.agg #[.int .i64 t1.states, .int .i64 t1.initial, a1, b1], .agg #[.int .i64 t2.states, .int .i64 t2.initial, a2, b2]] w' (RetEqf t1 t2 w')) := fun _ _ _ _ w' h1 k1 h2 k2 hg => implEqualFailures_any 0 t1 _ _ t2 _ _ w' J1.out J2.out h1 k1 h2 k2 hg
 clear hfit1 hll1 hel1 hfit2 hll2 hel2
 go_enter Tryz.func6, Tryz.ntmps6
 go_wp2_with fail
 rw [← HW1.out]
 refine Calls.mono (HC1.out _ (Below.refl _ _)) ?_
 rintro e w2 ⟨rfl, hb2⟩
 have D2 := Lib.hid hb2
 clear hb2 HC1
 obtain ⟨x0, x1, x2, x3⟩ := blk4 (X2.out.below D2.out)
 rw [← HN0.out]
 go_wp2_with fail
 refine Calls.mono (HC2.out _ D2.out) ?_
 rintro e w3 ⟨rfl, hb3⟩
 have D3 := Lib.hid (D2.out.trans (hb3.mono D2.out.size))
 clear hb3 HC2 x0 x1 x2 x3
 go_wp2_with fail
 have hDd : Below W1.heap.size W1 w3.drew := D3.out.drew
 have G0 : Hid (w3.cell? ⟨n0, 0, none⟩ = some (.int .i64 t1.states) ∧ w3.cell? ⟨n0, 1, none⟩ = some (.int .i64 t1.initial) ∧ w3.cell? ⟨n0, 2, none⟩ = some (l1) ∧ w3.cell? ⟨n0, 3, none⟩ = some (e1) ∧ w3.cell? ⟨n0 + 1, 0, none⟩ = some (.int .i64 t2.states) ∧ w3.cell? ⟨n0 + 1, 1, none⟩ = some (.int .i64 t2.initial) ∧ w3.cell? ⟨n0 + 1, 2, none⟩ = some (l2) ∧ w3.cell? ⟨n0 + 1, 3, none⟩ = some (e2)) := ⟨(X1.out.below D3.out).cell 0 rfl, (X1.out.below D3.out).cell 1 rfl, (X1.out.below D3.out).cell 2 rfl, (X1.out.below D3.out).cell 3 rfl, (X2.out.below D3.out).cell 0 rfl, (X2.out.below D3.out).cell 1 rfl, (X2.out.below D3.out).cell 2 rfl, (X2.out.below D3.out).cell 3 rfl⟩
 have G1 : Hid (w3.drew.cell? ⟨n0, 0, none⟩ = some (.int .i64 t1.states) ∧ w3.drew.cell? ⟨n0, 1, none⟩ = some (.int .i64 t1.initial) ∧ w3.drew.cell? ⟨n0, 2, none⟩ = some (l1) ∧ w3.drew.cell? ⟨n0, 3, none⟩ = some (e1) ∧ w3.drew.cell? ⟨n0 + 1, 0, none⟩ = some (.int .i64 t2.states) ∧ w3.drew.cell? ⟨n0 + 1, 1, none⟩ = some (.int .i64 t2.initial) ∧ w3.drew.cell? ⟨n0 + 1, 2, none⟩ = some (l2) ∧ w3.drew.cell? ⟨n0 + 1, 3, none⟩ = some (e2)) := ⟨(X1.out.below hDd).cell 0 rfl, (X1.out.below hDd).cell 1 rfl, (X1.out.below hDd).cell 2 rfl, (X1.out.below hDd).cell 3 rfl, (X2.out.below hDd).cell 0 rfl, (X2.out.below hDd).cell 1 rfl, (X2.out.below hDd).cell 2 rfl, (X2.out.below hDd).cell 3 rfl⟩
 go_region_held3 (fun w' => w'.cell? ⟨n0, 0, none⟩ = some (.int .i64 t1.states) ∧ w'.cell? ⟨n0, 1, none⟩ = some (.int .i64 t1.initial) ∧ w'.cell? ⟨n0, 2, none⟩ = some (l1) ∧ w'.cell? ⟨n0, 3, none⟩ = some (e1) ∧ w'.cell? ⟨n0 + 1, 0, none⟩ = some (.int .i64 t2.states) ∧ w'.cell? ⟨n0 + 1, 1, none⟩ = some (.int .i64 t2.initial) ∧ w'.cell? ⟨n0 + 1, 2, none⟩ = some (l2) ∧ w'.cell? ⟨n0 + 1, 3, none⟩ = some (e2))
  (first | exact G0.out | exact G1.out | exact G2.out | exact G3.out | exact G4.out | go_keep)
  (first
   | (go_at_call_of 16 (Value.agg #[Value.int .i64 t1.states, Value.int .i64 t1.initial, l1, e1]); refine Calls.mono (HT1.out _ hDd) ?_; rintro e w4 ⟨b41, b42, rfl, hb4, hc4⟩; have hD4 := hDd.trans (hb4.mono hDd.size); have G2 : Hid (w4.cell? ⟨n0, 0, none⟩ = some (.int .i64 t1.states) ∧ w4.cell? ⟨n0, 1, none⟩ = some (.int .i64 t1.initial) ∧ w4.cell? ⟨n0, 2, none⟩ = some (l1) ∧ w4.cell? ⟨n0, 3, none⟩ = some (e1) ∧ w4.cell? ⟨n0 + 1, 0, none⟩ = some (.int .i64 t2.states) ∧ w4.cell? ⟨n0 + 1, 1, none⟩ = some (.int .i64 t2.initial) ∧ w4.cell? ⟨n0 + 1, 2, none⟩ = some (l2) ∧ w4.cell? ⟨n0 + 1, 3, none⟩ = some (e2)) := ⟨(X1.out.below hD4).cell 0 rfl, (X1.out.below hD4).cell 1 rfl, (X1.out.below hD4).cell 2 rfl, (X1.out.below hD4).cell 3 rfl, (X2.out.below hD4).cell 0 rfl, (X2.out.below hD4).cell 1 rfl, (X2.out.below hD4).cell 2 rfl, (X2.out.below hD4).cell 3 rfl⟩)
   | (go_at_call_of 16 (Value.agg #[Value.int .i64 t2.states, Value.int .i64 t2.initial, l2, e2]); refine Calls.mono (HT2.out _ hD4) ?_; rintro e w5 ⟨b51, b52, rfl, hb5, hc5⟩; have hD5 := hD4.trans (hb5.mono hD4.size); have G3 : Hid (w5.cell? ⟨n0, 0, none⟩ = some (.int .i64 t1.states) ∧ w5.cell? ⟨n0, 1, none⟩ = some (.int .i64 t1.initial) ∧ w5.cell? ⟨n0, 2, none⟩ = some (l1) ∧ w5.cell? ⟨n0, 3, none⟩ = some (e1) ∧ w5.cell? ⟨n0 + 1, 0, none⟩ = some (.int .i64 t2.states) ∧ w5.cell? ⟨n0 + 1, 1, none⟩ = some (.int .i64 t2.initial) ∧ w5.cell? ⟨n0 + 1, 2, none⟩ = some (l2) ∧ w5.cell? ⟨n0 + 1, 3, none⟩ = some (e2)) := ⟨(X1.out.below hD5).cell 0 rfl, (X1.out.below hD5).cell 1 rfl, (X1.out.below hD5).cell 2 rfl, (X1.out.below hD5).cell 3 rfl, (X2.out.below hD5).cell 0 rfl, (X2.out.below hD5).cell 1 rfl, (X2.out.below hD5).cell 2 rfl, (X2.out.below hD5).cell 3 rfl⟩)
   | (go_at_call 27; refine Calls.mono (HSPEC.out _ _ _ _ _ (hc4.below hb5).labels (hc4.below hb5).edges hc5.labels hc5.edges) ?_; rintro e w6 ⟨hb6, r, code, rfl, hisS⟩; have hD6 := hD5.trans (hb6.mono hD5.size); have G4 : Hid (w6.cell? ⟨n0, 0, none⟩ = some (.int .i64 t1.states) ∧ w6.cell? ⟨n0, 1, none⟩ = some (.int .i64 t1.initial) ∧ w6.cell? ⟨n0, 2, none⟩ = some (l1) ∧ w6.cell? ⟨n0, 3, none⟩ = some (e1) ∧ w6.cell? ⟨n0 + 1, 0, none⟩ = some (.int .i64 t2.states) ∧ w6.cell? ⟨n0 + 1, 1, none⟩ = some (.int .i64 t2.initial) ∧ w6.cell? ⟨n0 + 1, 2, none⟩ = some (l2) ∧ w6.cell? ⟨n0 + 1, 3, none⟩ = some (e2)) := ⟨(X1.out.below hD6).cell 0 rfl, (X1.out.below hD6).cell 1 rfl, (X1.out.below hD6).cell 2 rfl, (X1.out.below hD6).cell 3 rfl, (X2.out.below hD6).cell 0 rfl, (X2.out.below hD6).cell 1 rfl, (X2.out.below hD6).cell 2 rfl, (X2.out.below hD6).cell 3 rfl⟩))
 have hall6 : Below w3.heap.size w3 w6 := ((((Below.refl w3.heap.size w3).drew).trans (hb4.mono (by simp))).trans (hb5.mono (Nat.le_trans (by simp) hb4.size))).trans (hb6.mono (Nat.le_trans (Nat.le_trans (by simp) hb4.size) hb5.size))
 have hsw6 : w3.heap.size ≤ w5.heap.size := Nat.le_trans (Nat.le_trans (show w3.heap.size ≤ w3.drew.heap.size by simp) hb4.size) hb5.size
 have HIS := Lib.hid hisS
 have D6 := Lib.hid (D3.out.trans (hall6.mono D3.out.size))
 clear hisS  HSPEC hall6 hb4 hb5 hb6 hc4 hc5 hDd hD4 hD5 hD6 G0 G1 G2 G3 G4
 obtain ⟨x0, x1, x2, x3⟩ := blk4 (X1.out.below D6.out)
 go_wp2_with fail
 refine Calls.mono (HT1.out _ D6.out) ?_
 rintro e w7 ⟨p11, p12, rfl, hb7, hc7⟩
 have CP1 := Lib.hid hc7
 have D7 := Lib.hid (D6.out.trans (hb7.mono D6.out.size))
 have E7 := Lib.hid hb7
 clear x0 x1 x2 x3 hb7 hc7
 obtain ⟨w8, hw8⟩ : ∃ w8, w8 = w7.alloc (.cells #[.int .i64 t1.states, .int .i64 t1.initial, .slice (some ⟨p11, 0, none⟩) t1.labels.length t1.labels.length, .slice (some ⟨p12, 0, none⟩) t1.edges.length t1.edges.length] 31) := ⟨_, rfl⟩
 have hb8 : Below w7.heap.size w7 w8 := by rw [hw8]; exact boxNew _ _ _
 obtain ⟨kx1, hkx1⟩ : ∃ kx1, kx1 = w7.heap.size := ⟨_, rfl⟩
 have XC1 : Hid (Blk w8 kx1 [.int .i64 t1.states, .int .i64 t1.initial, .slice (some ⟨p11, 0, none⟩) t1.labels.length t1.labels.length, .slice (some ⟨p12, 0, none⟩) t1.edges.length t1.edges.length] 31) := by unfold Hid; rw [hw8, hkx1]; exact Blk.new _ _ _
 have CQ1 := Lib.hid (CP1.out.below hb8)
 have HKX1 := Lib.hid hkx1
 have HW8 := Lib.hid hw8
 have hb61 : p12 < kx1 := by rw [hkx1]; exact CP1.out.h3
 have HB61 := Lib.hid hb61
 have HZX1 : Hid (w8.heap.size = kx1 + 1) := by unfold Hid; rw [hw8, hkx1]; simp
 have HBX1 : Hid (w6.heap.size ≤ kx1) := by unfold Hid; rw [hkx1]; exact (show w6.heap.size ≤ w7.heap.size from (by have := CP1.out.h1; have := CP1.out.h2; have := CP1.out.h3; omega))
 have D8 := Lib.hid (D7.out.trans (hb8.mono D7.out.size))
 have E8 := Lib.hid (E7.out.trans (hb8.mono E7.out.size))
 clear hb8 hw8 hkx1 hb61
 obtain ⟨x0, x1, x2, x3⟩ := blk4 (X2.out.below D8.out)
 rw [HW8.out] at x0 x1 x2 x3
 go_wp2_with fail
 rw [← HW8.out]
 refine Calls.mono (HT2.out _ D8.out) ?_
 rintro e w9 ⟨p21, p22, rfl, hb9, hc9⟩
 have CP2 := Lib.hid hc9
 have D9 := Lib.hid (D8.out.trans (hb9.mono D8.out.size))
 have E9 := Lib.hid (E8.out.trans (hb9.mono E8.out.size))
 have P19 := Lib.hid hb9
 clear x0 x1 x2 x3 hb9 hc9
 obtain ⟨w10, hw10⟩ : ∃ w10, w10 = w9.alloc (.cells #[.int .i64 t2.states, .int .i64 t2.initial, .slice (some ⟨p21, 0, none⟩) t2.labels.length t2.labels.length, .slice (some ⟨p22, 0, none⟩) t2.edges.length t2.edges.length] 31) := ⟨_, rfl⟩
 have hb10 : Below w9.heap.size w9 w10 := by rw [hw10]; exact boxNew _ _ _
 obtain ⟨kx2, hkx2⟩ : ∃ kx2, kx2 = w9.heap.size := ⟨_, rfl⟩
 have XC2 : Hid (Blk w10 kx2 [.int .i64 t2.states, .int .i64 t2.initial, .slice (some ⟨p21, 0, none⟩) t2.labels.length t2.labels.length, .slice (some ⟨p22, 0, none⟩) t2.edges.length t2.edges.length] 31) := by unfold Hid; rw [hw10, hkx2]; exact Blk.new _ _ _
 have CQ2 := Lib.hid (CP2.out.below hb10)
 have HKX2 := Lib.hid hkx2
 have HW10 := Lib.hid hw10
 have hb62 : p22 < kx2 := by rw [hkx2]; exact CP2.out.h3
 have HB62 := Lib.hid hb62
 have HZX2 : Hid (w10.heap.size = kx2 + 1) := by unfold Hid; rw [hw10, hkx2]; simp
 have HBX2 : Hid (w8.heap.size ≤ kx2) := by unfold Hid; rw [hkx2]; exact (show w8.heap.size ≤ w9.heap.size from (by have := CP2.out.h1; have := CP2.out.h2; have := CP2.out.h3; omega))
 have D10 := Lib.hid (D9.out.trans (hb10.mono D9.out.size))
 have E10 := Lib.hid (E9.out.trans (hb10.mono E9.out.size))
 have P110 := Lib.hid (P19.out.trans (hb10.mono P19.out.size))
 clear hb10 hw10 hkx2 hb62
 obtain ⟨x0, x1, x2, x3⟩ := blk4 (XC1.out.below P110.out)
 rw [HW10.out] at x0 x1 x2 x3
 obtain ⟨y0, y1, y2, y3⟩ := blk4 (XC2.out.below (Below.refl w10.heap.size w10))
 have hlt1 := (XC1.out.below P110.out).lt
 have hlt2 := (XC2.out.below (Below.refl w10.heap.size w10)).lt
 have HGO := Lib.hid (HIMPL.out _ _ _ _ _ (CQ1.out.below P110.out).labels (CQ1.out.below P110.out).edges (CQ2.out.below (Below.refl w10.heap.size w10)).labels (CQ2.out.below (Below.refl w10.heap.size w10)).edges (HG.out.below D10.out))
 rw [← HKX1.out]
 go_wp2_with fail
 rw [← HW10.out, ← HKX2.out]
 refine Calls.mono HGO.out ?_
 rintro e w11 ⟨hb11, rg, codeg, rfl, hisG⟩
 obtain ⟨hq0, hq1⟩ := HIS.out.unique hisG
 subst hq0 hq1
 have D11 := Lib.hid (D10.out.trans (hb11.mono D10.out.size))
 have E11 := Lib.hid (E10.out.trans (hb11.mono E10.out.size))
 have P111 := Lib.hid (P110.out.trans (hb11.mono P110.out.size))
 have P211 := Lib.hid hb11
 clear hisG hb11 HGO  x0 x1 x2 x3 y0 y1 y2 y3 hlt1 hlt2
 go_wp2_with fail
 have hDd : Below W1.heap.size W1 w11.drew := D11.out.drew
 have hPd := (P111.out).drew
 have G0 : Hid (w11.cell? ⟨kx1, 0, none⟩ = some (.int .i64 t1.states) ∧ w11.cell? ⟨kx1, 1, none⟩ = some (.int .i64 t1.initial) ∧ w11.cell? ⟨kx1, 2, none⟩ = some (.slice (some ⟨p11, 0, none⟩) t1.labels.length t1.labels.length) ∧ w11.cell? ⟨kx1, 3, none⟩ = some (.slice (some ⟨p12, 0, none⟩) t1.edges.length t1.edges.length) ∧ w11.cell? ⟨n0, 0, none⟩ = some (.int .i64 t1.states) ∧ w11.cell? ⟨n0, 1, none⟩ = some (.int .i64 t1.initial) ∧ w11.cell? ⟨n0, 2, none⟩ = some (l1) ∧ w11.cell? ⟨n0, 3, none⟩ = some (e1)) := ⟨(XC1.out.below P111.out).cell 0 rfl, (XC1.out.below P111.out).cell 1 rfl, (XC1.out.below P111.out).cell 2 rfl, (XC1.out.below P111.out).cell 3 rfl, (X1.out.below D11.out).cell 0 rfl, (X1.out.below D11.out).cell 1 rfl, (X1.out.below D11.out).cell 2 rfl, (X1.out.below D11.out).cell 3 rfl⟩
 have G1 : Hid (w11.drew.cell? ⟨kx1, 0, none⟩ = some (.int .i64 t1.states) ∧ w11.drew.cell? ⟨kx1, 1, none⟩ = some (.int .i64 t1.initial) ∧ w11.drew.cell? ⟨kx1, 2, none⟩ = some (.slice (some ⟨p11, 0, none⟩) t1.labels.length t1.labels.length) ∧ w11.drew.cell? ⟨kx1, 3, none⟩ = some (.slice (some ⟨p12, 0, none⟩) t1.edges.length t1.edges.length) ∧ w11.drew.cell? ⟨n0, 0, none⟩ = some (.int .i64 t1.states) ∧ w11.drew.cell? ⟨n0, 1, none⟩ = some (.int .i64 t1.initial) ∧ w11.drew.cell? ⟨n0, 2, none⟩ = some (l1) ∧ w11.drew.cell? ⟨n0, 3, none⟩ = some (e1)) := ⟨(XC1.out.below hPd).cell 0 rfl, (XC1.out.below hPd).cell 1 rfl, (XC1.out.below hPd).cell 2 rfl, (XC1.out.below hPd).cell 3 rfl, (X1.out.below hDd).cell 0 rfl, (X1.out.below hDd).cell 1 rfl, (X1.out.below hDd).cell 2 rfl, (X1.out.below hDd).cell 3 rfl⟩
 go_region_held3 (fun w' => w'.cell? ⟨kx1, 0, none⟩ = some (.int .i64 t1.states) ∧ w'.cell? ⟨kx1, 1, none⟩ = some (.int .i64 t1.initial) ∧ w'.cell? ⟨kx1, 2, none⟩ = some (.slice (some ⟨p11, 0, none⟩) t1.labels.length t1.labels.length) ∧ w'.cell? ⟨kx1, 3, none⟩ = some (.slice (some ⟨p12, 0, none⟩) t1.edges.length t1.edges.length) ∧ w'.cell? ⟨n0, 0, none⟩ = some (.int .i64 t1.states) ∧ w'.cell? ⟨n0, 1, none⟩ = some (.int .i64 t1.initial) ∧ w'.cell? ⟨n0, 2, none⟩ = some (l1) ∧ w'.cell? ⟨n0, 3, none⟩ = some (e1))
  (first | exact G0.out | exact G1.out | exact G2.out | exact G3.out | go_keep)
  (first
   | (go_at_call 16; refine Calls.mono (HT1.out _ hDd) ?_; rintro e w12 ⟨b121, b122, rfl, hb12, hc12⟩; have hD2 := hDd.trans (hb12.mono hDd.size); have hP2 := hPd.trans (hb12.mono hPd.size); have G2 : Hid (w12.cell? ⟨kx1, 0, none⟩ = some (.int .i64 t1.states) ∧ w12.cell? ⟨kx1, 1, none⟩ = some (.int .i64 t1.initial) ∧ w12.cell? ⟨kx1, 2, none⟩ = some (.slice (some ⟨p11, 0, none⟩) t1.labels.length t1.labels.length) ∧ w12.cell? ⟨kx1, 3, none⟩ = some (.slice (some ⟨p12, 0, none⟩) t1.edges.length t1.edges.length) ∧ w12.cell? ⟨n0, 0, none⟩ = some (.int .i64 t1.states) ∧ w12.cell? ⟨n0, 1, none⟩ = some (.int .i64 t1.initial) ∧ w12.cell? ⟨n0, 2, none⟩ = some (l1) ∧ w12.cell? ⟨n0, 3, none⟩ = some (e1)) := ⟨(XC1.out.below hP2).cell 0 rfl, (XC1.out.below hP2).cell 1 rfl, (XC1.out.below hP2).cell 2 rfl, (XC1.out.below hP2).cell 3 rfl, (X1.out.below hD2).cell 0 rfl, (X1.out.below hD2).cell 1 rfl, (X1.out.below hD2).cell 2 rfl, (X1.out.below hD2).cell 3 rfl⟩)
   | (go_at_call 19; refine (eqLts_same _ _ 0 0 t1 _ (CQ1.out.below hP2).at hc12.at).mono ?_; rintro e w13 ⟨rfl, hb13⟩; have hD3 := hD2.trans (hb13.mono hD2.size); have hP3 := hP2.trans (hb13.mono hP2.size); have G3 : Hid (w13.cell? ⟨kx1, 0, none⟩ = some (.int .i64 t1.states) ∧ w13.cell? ⟨kx1, 1, none⟩ = some (.int .i64 t1.initial) ∧ w13.cell? ⟨kx1, 2, none⟩ = some (.slice (some ⟨p11, 0, none⟩) t1.labels.length t1.labels.length) ∧ w13.cell? ⟨kx1, 3, none⟩ = some (.slice (some ⟨p12, 0, none⟩) t1.edges.length t1.edges.length) ∧ w13.cell? ⟨n0, 0, none⟩ = some (.int .i64 t1.states) ∧ w13.cell? ⟨n0, 1, none⟩ = some (.int .i64 t1.initial) ∧ w13.cell? ⟨n0, 2, none⟩ = some (l1) ∧ w13.cell? ⟨n0, 3, none⟩ = some (e1)) := ⟨(XC1.out.below hP3).cell 0 rfl, (XC1.out.below hP3).cell 1 rfl, (XC1.out.below hP3).cell 2 rfl, (XC1.out.below hP3).cell 3 rfl, (X1.out.below hD3).cell 0 rfl, (X1.out.below hD3).cell 1 rfl, (X1.out.below hD3).cell 2 rfl, (X1.out.below hD3).cell 3 rfl⟩))
 have hall13 : Below w11.heap.size w11 w13 := (((Below.refl w11.heap.size w11).drew).trans (hb12.mono (by simp))).trans (hb13.mono (Nat.le_trans (by simp) hb12.size))
 have D13 := Lib.hid (D11.out.trans (hall13.mono D11.out.size))
 have E13 := Lib.hid (E11.out.trans (hall13.mono E11.out.size))
 have P113 := Lib.hid (P111.out.trans (hall13.mono P111.out.size))
 have P213 := Lib.hid (P211.out.trans (hall13.mono P211.out.size))
 have G13 := Lib.hid hall13
 clear hDd hPd hD2 hP2 hD3 hP3 G0 G1 G2 G3 hall13 hb12 hc12 hb13
 go_wp2_with fail
 have hDd : Below W1.heap.size W1 w13.drew := D13.out.drew
 have hPd := (P213.out).drew
 have G0 : Hid (w13.cell? ⟨kx2, 0, none⟩ = some (.int .i64 t2.states) ∧ w13.cell? ⟨kx2, 1, none⟩ = some (.int .i64 t2.initial) ∧ w13.cell? ⟨kx2, 2, none⟩ = some (.slice (some ⟨p21, 0, none⟩) t2.labels.length t2.labels.length) ∧ w13.cell? ⟨kx2, 3, none⟩ = some (.slice (some ⟨p22, 0, none⟩) t2.edges.length t2.edges.length) ∧ w13.cell? ⟨n0 + 1, 0, none⟩ = some (.int .i64 t2.states) ∧ w13.cell? ⟨n0 + 1, 1, none⟩ = some (.int .i64 t2.initial) ∧ w13.cell? ⟨n0 + 1, 2, none⟩ = some (l2) ∧ w13.cell? ⟨n0 + 1, 3, none⟩ = some (e2)) := ⟨(XC2.out.below P213.out).cell 0 rfl, (XC2.out.below P213.out).cell 1 rfl, (XC2.out.below P213.out).cell 2 rfl, (XC2.out.below P213.out).cell 3 rfl, (X2.out.below D13.out).cell 0 rfl, (X2.out.below D13.out).cell 1 rfl, (X2.out.below D13.out).cell 2 rfl, (X2.out.below D13.out).cell 3 rfl⟩
 have G1 : Hid (w13.drew.cell? ⟨kx2, 0, none⟩ = some (.int .i64 t2.states) ∧ w13.drew.cell? ⟨kx2, 1, none⟩ = some (.int .i64 t2.initial) ∧ w13.drew.cell? ⟨kx2, 2, none⟩ = some (.slice (some ⟨p21, 0, none⟩) t2.labels.length t2.labels.length) ∧ w13.drew.cell? ⟨kx2, 3, none⟩ = some (.slice (some ⟨p22, 0, none⟩) t2.edges.length t2.edges.length) ∧ w13.drew.cell? ⟨n0 + 1, 0, none⟩ = some (.int .i64 t2.states) ∧ w13.drew.cell? ⟨n0 + 1, 1, none⟩ = some (.int .i64 t2.initial) ∧ w13.drew.cell? ⟨n0 + 1, 2, none⟩ = some (l2) ∧ w13.drew.cell? ⟨n0 + 1, 3, none⟩ = some (e2)) := ⟨(XC2.out.below hPd).cell 0 rfl, (XC2.out.below hPd).cell 1 rfl, (XC2.out.below hPd).cell 2 rfl, (XC2.out.below hPd).cell 3 rfl, (X2.out.below hDd).cell 0 rfl, (X2.out.below hDd).cell 1 rfl, (X2.out.below hDd).cell 2 rfl, (X2.out.below hDd).cell 3 rfl⟩
 go_region_held3 (fun w' => w'.cell? ⟨kx2, 0, none⟩ = some (.int .i64 t2.states) ∧ w'.cell? ⟨kx2, 1, none⟩ = some (.int .i64 t2.initial) ∧ w'.cell? ⟨kx2, 2, none⟩ = some (.slice (some ⟨p21, 0, none⟩) t2.labels.length t2.labels.length) ∧ w'.cell? ⟨kx2, 3, none⟩ = some (.slice (some ⟨p22, 0, none⟩) t2.edges.length t2.edges.length) ∧ w'.cell? ⟨n0 + 1, 0, none⟩ = some (.int .i64 t2.states) ∧ w'.cell? ⟨n0 + 1, 1, none⟩ = some (.int .i64 t2.initial) ∧ w'.cell? ⟨n0 + 1, 2, none⟩ = some (l2) ∧ w'.cell? ⟨n0 + 1, 3, none⟩ = some (e2))
  (first | exact G0.out | exact G1.out | exact G2.out | exact G3.out | go_keep)
  (first
   | (go_at_call 16; refine Calls.mono (HT2.out _ hDd) ?_; rintro e w14 ⟨b141, b142, rfl, hb14, hc14⟩; have hD2 := hDd.trans (hb14.mono hDd.size); have hP2 := hPd.trans (hb14.mono hPd.size); have G2 : Hid (w14.cell? ⟨kx2, 0, none⟩ = some (.int .i64 t2.states) ∧ w14.cell? ⟨kx2, 1, none⟩ = some (.int .i64 t2.initial) ∧ w14.cell? ⟨kx2, 2, none⟩ = some (.slice (some ⟨p21, 0, none⟩) t2.labels.length t2.labels.length) ∧ w14.cell? ⟨kx2, 3, none⟩ = some (.slice (some ⟨p22, 0, none⟩) t2.edges.length t2.edges.length) ∧ w14.cell? ⟨n0 + 1, 0, none⟩ = some (.int .i64 t2.states) ∧ w14.cell? ⟨n0 + 1, 1, none⟩ = some (.int .i64 t2.initial) ∧ w14.cell? ⟨n0 + 1, 2, none⟩ = some (l2) ∧ w14.cell? ⟨n0 + 1, 3, none⟩ = some (e2)) := ⟨(XC2.out.below hP2).cell 0 rfl, (XC2.out.below hP2).cell 1 rfl, (XC2.out.below hP2).cell 2 rfl, (XC2.out.below hP2).cell 3 rfl, (X2.out.below hD2).cell 0 rfl, (X2.out.below hD2).cell 1 rfl, (X2.out.below hD2).cell 2 rfl, (X2.out.below hD2).cell 3 rfl⟩)
   | (go_at_call 19; refine (eqLts_same _ _ 0 0 t2 _ (CQ2.out.below hP2).at hc14.at).mono ?_; rintro e w15 ⟨rfl, hb15⟩; have hD3 := hD2.trans (hb15.mono hD2.size); have hP3 := hP2.trans (hb15.mono hP2.size); have G3 : Hid (w15.cell? ⟨kx2, 0, none⟩ = some (.int .i64 t2.states) ∧ w15.cell? ⟨kx2, 1, none⟩ = some (.int .i64 t2.initial) ∧ w15.cell? ⟨kx2, 2, none⟩ = some (.slice (some ⟨p21, 0, none⟩) t2.labels.length t2.labels.length) ∧ w15.cell? ⟨kx2, 3, none⟩ = some (.slice (some ⟨p22, 0, none⟩) t2.edges.length t2.edges.length) ∧ w15.cell? ⟨n0 + 1, 0, none⟩ = some (.int .i64 t2.states) ∧ w15.cell? ⟨n0 + 1, 1, none⟩ = some (.int .i64 t2.initial) ∧ w15.cell? ⟨n0 + 1, 2, none⟩ = some (l2) ∧ w15.cell? ⟨n0 + 1, 3, none⟩ = some (e2)) := ⟨(XC2.out.below hP3).cell 0 rfl, (XC2.out.below hP3).cell 1 rfl, (XC2.out.below hP3).cell 2 rfl, (XC2.out.below hP3).cell 3 rfl, (X2.out.below hD3).cell 0 rfl, (X2.out.below hD3).cell 1 rfl, (X2.out.below hD3).cell 2 rfl, (X2.out.below hD3).cell 3 rfl⟩))
 have hall15 : Below w13.heap.size w13 w15 := (((Below.refl w13.heap.size w13).drew).trans (hb14.mono (by simp))).trans (hb15.mono (Nat.le_trans (by simp) hb14.size))
 have D15 := Lib.hid (D13.out.trans (hall15.mono D13.out.size))
 have E15 := Lib.hid (E13.out.trans (hall15.mono E13.out.size))
 have P115 := Lib.hid (P113.out.trans (hall15.mono P113.out.size))
 have P215 := Lib.hid (P213.out.trans (hall15.mono P213.out.size))
 have G15 := Lib.hid (G13.out.trans (hall15.mono G13.out.size))
 clear hDd hPd hD2 hP2 hD3 hP3 G0 G1 G2 G3 hall15 hb14 hc14 hb15
 go_wp2_with fail
 go_ret
 exact ⟨rfl, HB1.out.trans (D15.out.mono HB1.out.size)⟩

end Go.Proofs.YtpoleaekcjjedaaGreatDoor
