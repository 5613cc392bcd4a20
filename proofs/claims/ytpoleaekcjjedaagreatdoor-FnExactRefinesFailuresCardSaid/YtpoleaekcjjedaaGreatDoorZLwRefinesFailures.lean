/-
  For all arguments the law FnExactRefinesFailures answers true: the walk that joins both sides.
-/
import Derived.Test.YtpoleaekcjjedaaGreatDoorF34
import Derived.Test.YtpoleaekcjjedaaGreatDoorF28
import Derived.Test.YtpoleaekcjjedaaGreatDoorF29
import Derived.Deep.RegionHeld3
namespace Go.Proofs.YtpoleaekcjjedaaGreatDoor
open Go Go.RowKit

set_option maxRecDepth 100000 in
set_option maxHeartbeats 4000000 in
theorem lawRefinesFailures (lo : Nat) (t1 : Lts) (l1 e1 : Value) (t2 : Lts) (l2 e2 : Value) (w : World) (hs1 : SliceK 1 encS lo w l1 t1.labels) (he1 : SliceK 3 encE lo w e1 t1.edges) (hk1 : StrsOk t1.labels) (hs2 : SliceK 1 encS lo w l2 t2.labels) (he2 : SliceK 3 encE lo w e2 t2.edges) (hk2 : StrsOk t2.labels) (g : Glob w) :
  Calls Tryz.prog 7 #[.agg #[.int .i64 t1.states, .int .i64 t1.initial, l1, e1], .agg #[.int .i64 t2.states, .int .i64 t2.initial, l2, e2]] w fun e w' => e = .returned (.bool true) ∧ Below w.heap.size w w' := by
 obtain ⟨n0, hn0⟩ : ∃ n0, n0 = w.heap.size := ⟨_, rfl⟩
 obtain ⟨W1, hW1⟩ : ∃ W1, W1 = ((w.alloc (.cells #[.int .i64 t1.states, .int .i64 t1.initial, l1, e1] 25)).alloc (.cells #[.int .i64 t2.states, .int .i64 t2.initial, l2, e2] 25)) := ⟨_, rfl⟩
 have hB1 : Below w.heap.size w W1 := by rw [hW1]; exact (((Below.refl _ _).alloc (by simp) _).alloc (by simp) _)
 have hX1 : Blk W1 (n0) [.int .i64 t1.states, .int .i64 t1.initial, l1, e1] 25 := by
  have h := Blk.new w [.int .i64 t1.states, .int .i64 t1.initial, l1, e1] 25
  rw [← hn0] at h
  rw [hW1]
  exact h.alloc _
 have hX2 : Blk W1 (n0 + 1) [.int .i64 t2.states, .int .i64 t2.initial, l2, e2] 25 := by
  have h := Blk.new (w.alloc (.cells #[.int .i64 t1.states, .int .i64 t1.initial, l1, e1] 25)) [.int .i64 t2.states, .int .i64 t2.initial, l2, e2] 25
  rw [World.size_alloc, ← hn0] at h
  rw [hW1]
  exact h
 have HS1 := Lib.hid (hs1.below hB1)
 have HE1 := Lib.hid (he1.below hB1)
 have K1 := Lib.hid hk1
 have X1 := Lib.hid hX1
 have HS2 := Lib.hid (hs2.below hB1)
 have HE2 := Lib.hid (he2.below hB1)
 have K2 := Lib.hid hk2
 have X2 := Lib.hid hX2
 have HG := Lib.hid (g.below hB1)
 have HB1 := Lib.hid hB1
 have HW1 := Lib.hid hW1
 have HN0 := Lib.hid hn0
 clear g hB1 hW1 hn0 hs1 he1 hk1 hX1 hs2 he2 hk2 hX2
 have HC1 := Lib.hid (fun w' (hb : Below W1.heap.size W1 w') => szLts_any (.agg #[.int .i64 t1.states, .int .i64 t1.initial, l1, e1]) lo t1 1048576 w' (by decide) (by decide) K1.out ⟨l1, e1, rfl, HS1.out.below hb, HE1.out.below hb⟩)
 by_cases c1 : szL t1 1048576 < 0
 ·clear HG 
  go_enter Tryz.func7, Tryz.ntmps7
  go_wp2_with fail
  rw [← HW1.out]
  refine Calls.mono (HC1.out _ (Below.refl _ _)) ?_
  rintro e y1 ⟨rfl, hb1⟩
  have D1 := Lib.hid hb1
  clear hb1
  go_wp2_with fail
  go_ret
  exact ⟨rfl, HB1.out.trans (D1.out.mono HB1.out.size)⟩
 have hfit1 := szL_fit (t := t1) (left := 1048576) (by decide) (by omega)
 obtain ⟨M1, hM1⟩ : ∃ M1, M1 = szL t1 1048576 := ⟨_, rfl⟩
 rw [← hM1] at c1 hfit1 HC1
 have HMM1 := Lib.hid hM1
 clear hM1
 have hLz1 : 0 ≤ M1 := by omega
 have hLe1 : M1 ≤ 1048576 := by omega
 have HC2 := Lib.hid (fun w' (hb : Below W1.heap.size W1 w') => szLts_any (.agg #[.int .i64 t2.states, .int .i64 t2.initial, l2, e2]) lo t2 M1 w' hLz1 hLe1 K2.out ⟨l2, e2, rfl, HS2.out.below hb, HE2.out.below hb⟩)
 by_cases c2 : szL t2 M1 < 0
 ·clear HG hLe1 hfit1
  go_enter Tryz.func7, Tryz.ntmps7
  go_wp2_with fail
  rw [← HW1.out]
  refine Calls.mono (HC1.out _ (Below.refl _ _)) ?_
  rintro e y1 ⟨rfl, hb1⟩
  have D1 := Lib.hid hb1
  obtain ⟨x0, x1, x2, x3⟩ := blk4 (X2.out.below D1.out)
  rw [← HN0.out]
  clear hb1
  go_wp2_with fail
  refine Calls.mono (HC2.out _ D1.out) ?_
  rintro e y2 ⟨rfl, hb2⟩
  have D2 := Lib.hid (D1.out.trans (hb2.mono D1.out.size))
  clear x0 x1 x2 x3
  clear hb2
  go_wp2_with fail
  go_ret
  exact ⟨rfl, HB1.out.trans (D2.out.mono HB1.out.size)⟩
 have hfit2 := szL_fit (t := t2) (left := M1) hLz1 (by omega)
 obtain ⟨M2, hM2⟩ : ∃ M2, M2 = szL t2 M1 := ⟨_, rfl⟩
 rw [← hM2] at c2 hfit2 HC2
 have HMM2 := Lib.hid hM2
 clear hM2
 have hLz2 : 0 ≤ M2 := by omega
 have hLe2 : M2 ≤ 1048576 := by omega
 have hll1 : t1.labels.length ≤ 1048576 := by omega
 have hel1 : t1.edges.length ≤ 1048576 := by omega
 have J1 : Hid (Short20 t1.labels) := fun i hi => by have := hfit1.2.2.1 _ (List.getElem_mem hi); omega
 have I1 : Hid (Short t1.labels) := fun i hi => Nat.le_trans (J1.out i hi) (by decide)
 have HT1 : Hid (∀ w', Below W1.heap.size W1 w' → Calls Tryz.prog 16 #[.agg #[.int .i64 t1.states, .int .i64 t1.initial, l1, e1]] w' (CopyMade t1 w')) := fun w' hb => copy_any lo t1 _ _ w' hll1 hel1 (HS1.out.below hb) (HE1.out.below hb)
 have HLN1 : Hid (t1.labels.length ≤ 1048576 ∧ t1.edges.length ≤ 1048576) := ⟨hll1, hel1⟩
 have hll2 : t2.labels.length ≤ 1048576 := by omega
 have hel2 : t2.edges.length ≤ 1048576 := by omega
 have J2 : Hid (Short20 t2.labels) := fun i hi => by have := hfit2.2.2.1 _ (List.getElem_mem hi); omega
 have I2 : Hid (Short t2.labels) := fun i hi => Nat.le_trans (J2.out i hi) (by decide)
 have HT2 : Hid (∀ w', Below W1.heap.size W1 w' → Calls Tryz.prog 16 #[.agg #[.int .i64 t2.states, .int .i64 t2.initial, l2, e2]] w' (CopyMade t2 w')) := fun w' hb => copy_any lo t2 _ _ w' hll2 hel2 (HS2.out.below hb) (HE2.out.below hb)
 have HLN2 : Hid (t2.labels.length ≤ 1048576 ∧ t2.edges.length ≤ 1048576) := ⟨hll2, hel2⟩
 have HSPEC : Hid (∀ (a1 b1 : Value) (a2 b2 : Value) (w' : World), SliceK 1 encS 0 w' a1 t1.labels → SliceK 3 encE 0 w' b1 t1.edges → SliceK 1 encS 0 w' a2 t2.labels → SliceK 3 encE 0 w' b2 t2.edges → Calls Tryz.prog 29 #[.agg #[.int .i64 t1.states, .int .i64 t1.initial, a1, b1], .agg #[.int .i64 t2.states, .int .i64 t2.initial, a2, b2]] w' (RetRef t1 t2 w')) := fun _ _ _ _ w' h1 k1 h2 k2 => specRefinesFailures_any 0 t1 t2 _ _ _ _ w' I1.out I2.out ⟨h1, k1⟩ ⟨h2, k2⟩
 have HIMPL : Hid (∀ (a1 b1 : Value) (a2 b2 : Value) (w' : World), SliceK 1 encS 0 w' a1 t1.labels → SliceK 3 encE 0 w' b1 t1.edges → SliceK 1 encS 0 w' a2 t2.labels → SliceK 3 encE 0 w' b2 t2.edges → Glob w' → Calls Tryz.prog 30 #[.agg #[.int .i64 t1.states, .int .i64 t1.initial, a1, b1], .agg #[.int .i64 t2.states, .int .i64 t2.initial, a2, b2]] w' (RetRef t1 t2 w')) := fun _ _ _ _ w' h1 k1 h2 k2 hg => implRefinesFailures_any 0 t1 _ _ t2 _ _ w' J1.out J2.out h1 k1 h2 k2 hg
 clear hfit1 hll1 hel1 hfit2 hll2 hel2
 go_enter Tryz.func7, Tryz.ntmps7
 go_wp2_with fail
 rw [← HW1.out]
 refine Calls.mono (HC1.out _ (Below.refl _ _)) ?_
 rintro e w2 ⟨rfl, hb2⟩
 have D2 := Lib.hid hb2
 clear hb2 HC1
 obtain ⟨x0, x1, x2, x3⟩ := blk4 (X2.out.below D2.out)
 rw [← HN0.out]
 go_wp2_with fail
 refine Calls.mono (HC2.out _ D2.out) ?_
 rintro e w3 ⟨rfl, hb3⟩
 have D3 := Lib.hid (D2.out.trans (hb3.mono D2.out.size))
 clear hb3 HC2 x0 x1 x2 x3
 go_wp2_with fail
 have hDd : Below W1.heap.size W1 w3.drew := D3.out.drew
 have G0 : Hid (w3.cell? ⟨n0, 0, none⟩ = some (.int .i64 t1.states) ∧ w3.cell? ⟨n0, 1, none⟩ = some (.int .i64 t1.initial) ∧ w3.cell? ⟨n0, 2, none⟩ = some (l1) ∧ w3.cell? ⟨n0, 3, none⟩ = some (e1) ∧ w3.cell? ⟨n0 + 1, 0, none⟩ = some (.int .i64 t2.states) ∧ w3.cell? ⟨n0 + 1, 1, none⟩ = some (.int .i64 t2.initial) ∧ w3.cell? ⟨n0 + 1, 2, none⟩ = some (l2) ∧ w3.cell? ⟨n0 + 1, 3, none⟩ = some (e2)) := ⟨(X1.out.below D3.out).cell 0 rfl, (X1.out.below D3.out).cell 1 rfl, (X1.out.below D3.out).cell 2 rfl, (X1.out.below D3.out).cell 3 rfl, (X2.out.below D3.out).cell 0 rfl, (X2.out.below D3.out).cell 1 rfl, (X2.out.below D3.out).cell 2 rfl, (X2.out.below D3.out).cell 3 rfl⟩
 have G1 : Hid (w3.drew.cell? ⟨n0, 0, none⟩ = some (.int .i64 t1.states) ∧ w3.drew.cell? ⟨n0, 1, none⟩ = some (.int .i64 t1.initial) ∧ w3.drew.cell? ⟨n0, 2, none⟩ = some (l1) ∧ w3.drew.cell? ⟨n0, 3, none⟩ = some (e1) ∧ w3.drew.cell? ⟨n0 + 1, 0, none⟩ = some (.int .i64 t2.states) ∧ w3.drew.cell? ⟨n0 + 1, 1, none⟩ = some (.int .i64 t2.initial) ∧ w3.drew.cell? ⟨n0 + 1, 2, none⟩ = some (l2) ∧ w3.drew.cell? ⟨n0 + 1, 3, none⟩ = some (e2)) := ⟨(X1.out.below hDd).cell 0 rfl, (X1.out.below hDd).cell 1 rfl, (X1.out.below hDd).cell 2 rfl, (X1.out.below hDd).cell 3 rfl, (X2.out.below hDd).cell 0 rfl, (X2.out.below hDd).cell 1 rfl, (X2.out.below hDd).cell 2 rfl, (X2.out.below hDd).cell 3 rfl⟩
 go_region_held3 (fun w' => w'.cell? ⟨n0, 0, none⟩ = some (.int .i64 t1.states) ∧ w'.cell? ⟨n0, 1, none⟩ = some (.int .i64 t1.initial) ∧ w'.cell? ⟨n0, 2, none⟩ = some (l1) ∧ w'.cell? ⟨n0, 3, none⟩ = some (e1) ∧ w'.cell? ⟨n0 + 1, 0, none⟩ = some (.int .i64 t2.states) ∧ w'.cell? ⟨n0 + 1, 1, none⟩ = some (.int .i64 t2.initial) ∧ w'.cell? ⟨n0 + 1, 2, none⟩ = some (l2) ∧ w'.cell? ⟨n0 + 1, 3, none⟩ = some (e2))
  (first | exact G0.out | exact G1.out | exact G2.out | exact G3.out | exact G4.out | go_keep)
  (first
   | (go_at_call_of 16 (Value.agg #[Value.int .i64 t1.states, Value.int .i64 t1.initial, l1, e1]); refine Calls.mono (HT1.out _ hDd) ?_; rintro e w4 ⟨b41, b42, rfl, hb4, hc4⟩; have hD4 := hDd.trans (hb4.mono hDd.size); have G2 : Hid (w4.cell? ⟨n0, 0, none⟩ = some (.int .i64 t1.states) ∧ w4.cell? ⟨n0, 1, none⟩ = some (.int .i64 t1.initial) ∧ w4.cell? ⟨n0, 2, none⟩ = some (l1) ∧ w4.cell? ⟨n0, 3, none⟩ = some (e1) ∧ w4.cell? ⟨n0 + 1, 0, none⟩ = some (.int .i64 t2.states) ∧ w4.cell? ⟨n0 + 1, 1, none⟩ = some (.int .i64 t2.initial) ∧ w4.cell? ⟨n0 + 1, 2, none⟩ = some (l2) ∧ w4.cell? ⟨n0 + 1, 3, none⟩ = some (e2)) := ⟨(X1.out.below hD4).cell 0 rfl, (X1.out.below hD4).cell 1 rfl, (X1.out.below hD4).cell 2 rfl, (X1.out.below hD4).cell 3 rfl, (X2.out.below hD4).cell 0 rfl, (X2.out.below hD4).cell 1 rfl, (X2.out.below hD4).cell 2 rfl, (X2.out.below hD4).cell 3 rfl⟩)
   | (go_at_call_of 16 (Value.agg #[Value.int .i64 t2.states, Value.int .i64 t2.initial, l2, e2]); refine Calls.mono (HT2.out _ hD4) ?_; rintro e w5 ⟨b51, b52, rfl, hb5, hc5⟩; have hD5 := hD4.trans (hb5.mono hD4.size); have G3 : Hid (w5.cell? ⟨n0, 0, none⟩ = some (.int .i64 t1.states) ∧ w5.cell? ⟨n0, 1, none⟩ = some (.int .i64 t1.initial) ∧ w5.cell? ⟨n0, 2, none⟩ = some (l1) ∧ w5.cell? ⟨n0, 3, none⟩ = some (e1) ∧ w5.cell? ⟨n0 + 1, 0, none⟩ = some (.int .i64 t2.states) ∧ w5.cell? ⟨n0 + 1, 1, none⟩ = some (.int .i64 t2.initial) ∧ w5.cell? ⟨n0 + 1, 2, none⟩ = some (l2) ∧ w5.cell? ⟨n0 + 1, 3, none⟩ = some (e2)) := ⟨(X1.out.below hD5).cell 0 rfl, (X1.out.below hD5).cell 1 rfl, (X1.out.below hD5).cell 2 rfl, (X1.out.below hD5).cell 3 rfl, (X2.out.below hD5).cell 0 rfl, (X2.out.below hD5).cell 1 rfl, (X2.out.below hD5).cell 2 rfl, (X2.out.below hD5).cell 3 rfl⟩)
   | (go_at_call 29; refine Calls.mono (HSPEC.out _ _ _ _ _ (hc4.below hb5).labels (hc4.below hb5).edges hc5.labels hc5.edges) ?_; rintro e w6 ⟨hb6, r, xs, ys, code, vS, uS, rfl, hisS, hoS1, hoS2, hfarS⟩; have hD6 := hD5.trans (hb6.mono hD5.size); have G4 : Hid (w6.cell? ⟨n0, 0, none⟩ = some (.int .i64 t1.states) ∧ w6.cell? ⟨n0, 1, none⟩ = some (.int .i64 t1.initial) ∧ w6.cell? ⟨n0, 2, none⟩ = some (l1) ∧ w6.cell? ⟨n0, 3, none⟩ = some (e1) ∧ w6.cell? ⟨n0 + 1, 0, none⟩ = some (.int .i64 t2.states) ∧ w6.cell? ⟨n0 + 1, 1, none⟩ = some (.int .i64 t2.initial) ∧ w6.cell? ⟨n0 + 1, 2, none⟩ = some (l2) ∧ w6.cell? ⟨n0 + 1, 3, none⟩ = some (e2)) := ⟨(X1.out.below hD6).cell 0 rfl, (X1.out.below hD6).cell 1 rfl, (X1.out.below hD6).cell 2 rfl, (X1.out.below hD6).cell 3 rfl, (X2.out.below hD6).cell 0 rfl, (X2.out.below hD6).cell 1 rfl, (X2.out.below hD6).cell 2 rfl, (X2.out.below hD6).cell 3 rfl⟩))
 have hall6 : Below w3.heap.size w3 w6 := ((((Below.refl w3.heap.size w3).drew).trans (hb4.mono (by simp))).trans (hb5.mono (Nat.le_trans (by simp) hb4.size))).trans (hb6.mono (Nat.le_trans (Nat.le_trans (by simp) hb4.size) hb5.size))
 have hsw6 : w3.heap.size ≤ w5.heap.size := Nat.le_trans (Nat.le_trans (show w3.heap.size ≤ w3.drew.heap.size by simp) hb4.size) hb5.size
 have HIS := Lib.hid hisS
 have HOS1 := Lib.hid hoS1
 have HOS2 := Lib.hid hoS2
 have D6 := Lib.hid (D3.out.trans (hall6.mono D3.out.size))
 clear hisS hoS1 hoS2 hfarS HSPEC hall6 hb4 hb5 hb6 hc4 hc5 hDd hD4 hD5 hD6 G0 G1 G2 G3 G4
 have HWS1 : Hid (W1.heap.size ≤ w6.heap.size) := D6.out.size
 have HSS : Hid (w6.heap.size ≤ w6.heap.size) := ((Below.refl w6.heap.size w6)).size
 obtain ⟨x0, x1, x2, x3⟩ := blk4 (X1.out.below D6.out)
 go_wp2_with fail
 refine Calls.mono (HT1.out _ D6.out) ?_
 rintro e w7 ⟨p11, p12, rfl, hb7, hc7⟩
 have CP1 := Lib.hid hc7
 have HBS1 : Hid (w6.heap.size ≤ w6.heap.size) := ((Below.refl w6.heap.size w6)).size
 have D7 := Lib.hid (D6.out.trans (hb7.mono D6.out.size))
 have E7 := Lib.hid hb7
 clear x0 x1 x2 x3 hb7 hc7
 obtain ⟨w8, hw8⟩ : ∃ w8, w8 = w7.alloc (.cells #[.int .i64 t1.states, .int .i64 t1.initial, .slice (some ⟨p11, 0, none⟩) t1.labels.length t1.labels.length, .slice (some ⟨p12, 0, none⟩) t1.edges.length t1.edges.length] 31) := ⟨_, rfl⟩
 have hb8 : Below w7.heap.size w7 w8 := by rw [hw8]; exact boxNew _ _ _
 obtain ⟨kx1, hkx1⟩ : ∃ kx1, kx1 = w7.heap.size := ⟨_, rfl⟩
 have XC1 : Hid (Blk w8 kx1 [.int .i64 t1.states, .int .i64 t1.initial, .slice (some ⟨p11, 0, none⟩) t1.labels.length t1.labels.length, .slice (some ⟨p12, 0, none⟩) t1.edges.length t1.edges.length] 31) := by unfold Hid; rw [hw8, hkx1]; exact Blk.new _ _ _
 have CQ1 := Lib.hid (CP1.out.below hb8)
 have HKX1 := Lib.hid hkx1
 have HW8 := Lib.hid hw8
 have hb61 : p12 < kx1 := by rw [hkx1]; exact CP1.out.h3
 have HB61 := Lib.hid hb61
 have HZX1 : Hid (w8.heap.size = kx1 + 1) := by unfold Hid; rw [hw8, hkx1]; simp
 have HBX1 : Hid (w6.heap.size ≤ kx1) := by unfold Hid; rw [hkx1]; exact (show w6.heap.size ≤ w7.heap.size from (by have := CP1.out.h1; have := CP1.out.h2; have := CP1.out.h3; omega))
 have D8 := Lib.hid (D7.out.trans (hb8.mono D7.out.size))
 have E8 := Lib.hid (E7.out.trans (hb8.mono E7.out.size))
 clear hb8 hw8 hkx1 hb61
 obtain ⟨x0, x1, x2, x3⟩ := blk4 (X2.out.below D8.out)
 rw [HW8.out] at x0 x1 x2 x3
 go_wp2_with fail
 rw [← HW8.out]
 refine Calls.mono (HT2.out _ D8.out) ?_
 rintro e w9 ⟨p21, p22, rfl, hb9, hc9⟩
 have CP2 := Lib.hid hc9
 have HBS2 : Hid (w6.heap.size ≤ w8.heap.size) := (E8.out).size
 have D9 := Lib.hid (D8.out.trans (hb9.mono D8.out.size))
 have E9 := Lib.hid (E8.out.trans (hb9.mono E8.out.size))
 have P19 := Lib.hid hb9
 clear x0 x1 x2 x3 hb9 hc9
 obtain ⟨w10, hw10⟩ : ∃ w10, w10 = w9.alloc (.cells #[.int .i64 t2.states, .int .i64 t2.initial, .slice (some ⟨p21, 0, none⟩) t2.labels.length t2.labels.length, .slice (some ⟨p22, 0, none⟩) t2.edges.length t2.edges.length] 31) := ⟨_, rfl⟩
 have hb10 : Below w9.heap.size w9 w10 := by rw [hw10]; exact boxNew _ _ _
 obtain ⟨kx2, hkx2⟩ : ∃ kx2, kx2 = w9.heap.size := ⟨_, rfl⟩
 have XC2 : Hid (Blk w10 kx2 [.int .i64 t2.states, .int .i64 t2.initial, .slice (some ⟨p21, 0, none⟩) t2.labels.length t2.labels.length, .slice (some ⟨p22, 0, none⟩) t2.edges.length t2.edges.length] 31) := by unfold Hid; rw [hw10, hkx2]; exact Blk.new _ _ _
 have CQ2 := Lib.hid (CP2.out.below hb10)
 have HKX2 := Lib.hid hkx2
 have HW10 := Lib.hid hw10
 have hb62 : p22 < kx2 := by rw [hkx2]; exact CP2.out.h3
 have HB62 := Lib.hid hb62
 have HZX2 : Hid (w10.heap.size = kx2 + 1) := by unfold Hid; rw [hw10, hkx2]; simp
 have HBX2 : Hid (w8.heap.size ≤ kx2) := by unfold Hid; rw [hkx2]; exact (show w8.heap.size ≤ w9.heap.size from (by have := CP2.out.h1; have := CP2.out.h2; have := CP2.out.h3; omega))
 have D10 := Lib.hid (D9.out.trans (hb10.mono D9.out.size))
 have E10 := Lib.hid (E9.out.trans (hb10.mono E9.out.size))
 have P110 := Lib.hid (P19.out.trans (hb10.mono P19.out.size))
 clear hb10 hw10 hkx2 hb62
 have HWI1 : Hid (kx1 + 1 ≤ w10.heap.size) := by have := (P110.out).size; have := HZX1.out; unfold Hid; omega
 have HWI2 : Hid (kx2 + 1 ≤ w10.heap.size) := by have := ((Below.refl w10.heap.size w10)).size; have := HZX2.out; unfold Hid; omega
 have HWIS : Hid (w6.heap.size ≤ w10.heap.size) := (E10.out).size
 obtain ⟨x0, x1, x2, x3⟩ := blk4 (XC1.out.below P110.out)
 rw [HW10.out] at x0 x1 x2 x3
 obtain ⟨y0, y1, y2, y3⟩ := blk4 (XC2.out.below (Below.refl w10.heap.size w10))
 have hlt1 := (XC1.out.below P110.out).lt
 have hlt2 := (XC2.out.below (Below.refl w10.heap.size w10)).lt
 have HGO := Lib.hid (HIMPL.out _ _ _ _ _ (CQ1.out.below P110.out).labels (CQ1.out.below P110.out).edges (CQ2.out.below (Below.refl w10.heap.size w10)).labels (CQ2.out.below (Below.refl w10.heap.size w10)).edges (HG.out.below D10.out))
 rw [← HKX1.out]
 go_wp2_with fail
 rw [← HW10.out, ← HKX2.out]
 refine Calls.mono HGO.out ?_
 rintro e w11 ⟨hb11, rg, xsg, ysg, codeg, vG, uG, rfl, hisG, hoG1, hoG2, hfarG⟩
 have HFARG := Lib.hid hfarG
 obtain ⟨hq0, hq1, hq2, hq3⟩ := HIS.out.unique hisG
 subst hq0 hq1 hq2 hq3
 have HOG1 := Lib.hid hoG1
 have HOG2 := Lib.hid hoG2
 have D11 := Lib.hid (D10.out.trans (hb11.mono D10.out.size))
 have E11 := Lib.hid (E10.out.trans (hb11.mono E10.out.size))
 have P111 := Lib.hid (P110.out.trans (hb11.mono P110.out.size))
 have P211 := Lib.hid hb11
 have I11 := Lib.hid hb11
 clear hisG hb11 HGO hoG1 hoG2 hfarG x0 x1 x2 x3 y0 y1 y2 y3 hlt1 hlt2
 go_wp2_with fail
 refine (eqStringS_same _ _ _ _ xs _ ((HOG1.out.below (Below.refl w11.heap.size w11)).at) ((HOS1.out.below E11.out).at)).mono ?_
 rintro e w12 ⟨rfl, hb12⟩
 have D12 := Lib.hid (D11.out.trans (hb12.mono D11.out.size))
 have E12 := Lib.hid (E11.out.trans (hb12.mono E11.out.size))
 have P112 := Lib.hid (P111.out.trans (hb12.mono P111.out.size))
 have P212 := Lib.hid (P211.out.trans (hb12.mono P211.out.size))
 have I12 := Lib.hid (I11.out.trans (hb12.mono I11.out.size))
 have G12 := Lib.hid hb12
 clear hb12
 go_wp2_with fail
 refine (eqStringS_same _ _ _ _ ys _ ((HOG2.out.below G12.out).at) ((HOS2.out.below E12.out).at)).mono ?_
 rintro e w13 ⟨rfl, hb13⟩
 have D13 := Lib.hid (D12.out.trans (hb13.mono D12.out.size))
 have E13 := Lib.hid (E12.out.trans (hb13.mono E12.out.size))
 have P113 := Lib.hid (P112.out.trans (hb13.mono P112.out.size))
 have P213 := Lib.hid (P212.out.trans (hb13.mono P212.out.size))
 have I13 := Lib.hid (I12.out.trans (hb13.mono I12.out.size))
 have G13 := Lib.hid (G12.out.trans (hb13.mono G12.out.size))
 clear hb13
 go_wp2_with fail
 have hDd : Below W1.heap.size W1 w13.drew := D13.out.drew
 have hPd := (P113.out).drew
 have G0 : Hid (w13.cell? ⟨kx1, 0, none⟩ = some (.int .i64 t1.states) ∧ w13.cell? ⟨kx1, 1, none⟩ = some (.int .i64 t1.initial) ∧ w13.cell? ⟨kx1, 2, none⟩ = some (.slice (some ⟨p11, 0, none⟩) t1.labels.length t1.labels.length) ∧ w13.cell? ⟨kx1, 3, none⟩ = some (.slice (some ⟨p12, 0, none⟩) t1.edges.length t1.edges.length) ∧ w13.cell? ⟨n0, 0, none⟩ = some (.int .i64 t1.states) ∧ w13.cell? ⟨n0, 1, none⟩ = some (.int .i64 t1.initial) ∧ w13.cell? ⟨n0, 2, none⟩ = some (l1) ∧ w13.cell? ⟨n0, 3, none⟩ = some (e1)) := ⟨(XC1.out.below P113.out).cell 0 rfl, (XC1.out.below P113.out).cell 1 rfl, (XC1.out.below P113.out).cell 2 rfl, (XC1.out.below P113.out).cell 3 rfl, (X1.out.below D13.out).cell 0 rfl, (X1.out.below D13.out).cell 1 rfl, (X1.out.below D13.out).cell 2 rfl, (X1.out.below D13.out).cell 3 rfl⟩
 have G1 : Hid (w13.drew.cell? ⟨kx1, 0, none⟩ = some (.int .i64 t1.states) ∧ w13.drew.cell? ⟨kx1, 1, none⟩ = some (.int .i64 t1.initial) ∧ w13.drew.cell? ⟨kx1, 2, none⟩ = some (.slice (some ⟨p11, 0, none⟩) t1.labels.length t1.labels.length) ∧ w13.drew.cell? ⟨kx1, 3, none⟩ = some (.slice (some ⟨p12, 0, none⟩) t1.edges.length t1.edges.length) ∧ w13.drew.cell? ⟨n0, 0, none⟩ = some (.int .i64 t1.states) ∧ w13.drew.cell? ⟨n0, 1, none⟩ = some (.int .i64 t1.initial) ∧ w13.drew.cell? ⟨n0, 2, none⟩ = some (l1) ∧ w13.drew.cell? ⟨n0, 3, none⟩ = some (e1)) := ⟨(XC1.out.below hPd).cell 0 rfl, (XC1.out.below hPd).cell 1 rfl, (XC1.out.below hPd).cell 2 rfl, (XC1.out.below hPd).cell 3 rfl, (X1.out.below hDd).cell 0 rfl, (X1.out.below hDd).cell 1 rfl, (X1.out.below hDd).cell 2 rfl, (X1.out.below hDd).cell 3 rfl⟩
 go_region_held3 (fun w' => w'.cell? ⟨kx1, 0, none⟩ = some (.int .i64 t1.states) ∧ w'.cell? ⟨kx1, 1, none⟩ = some (.int .i64 t1.initial) ∧ w'.cell? ⟨kx1, 2, none⟩ = some (.slice (some ⟨p11, 0, none⟩) t1.labels.length t1.labels.length) ∧ w'.cell? ⟨kx1, 3, none⟩ = some (.slice (some ⟨p12, 0, none⟩) t1.edges.length t1.edges.length) ∧ w'.cell? ⟨n0, 0, none⟩ = some (.int .i64 t1.states) ∧ w'.cell? ⟨n0, 1, none⟩ = some (.int .i64 t1.initial) ∧ w'.cell? ⟨n0, 2, none⟩ = some (l1) ∧ w'.cell? ⟨n0, 3, none⟩ = some (e1))
  (first | exact G0.out | exact G1.out | exact G2.out | exact G3.out | go_keep)
  (first
   | (go_at_call 16; refine Calls.mono (HT1.out _ hDd) ?_; rintro e w14 ⟨b141, b142, rfl, hb14, hc14⟩; have hD2 := hDd.trans (hb14.mono hDd.size); have hP2 := hPd.trans (hb14.mono hPd.size); have G2 : Hid (w14.cell? ⟨kx1, 0, none⟩ = some (.int .i64 t1.states) ∧ w14.cell? ⟨kx1, 1, none⟩ = some (.int .i64 t1.initial) ∧ w14.cell? ⟨kx1, 2, none⟩ = some (.slice (some ⟨p11, 0, none⟩) t1.labels.length t1.labels.length) ∧ w14.cell? ⟨kx1, 3, none⟩ = some (.slice (some ⟨p12, 0, none⟩) t1.edges.length t1.edges.length) ∧ w14.cell? ⟨n0, 0, none⟩ = some (.int .i64 t1.states) ∧ w14.cell? ⟨n0, 1, none⟩ = some (.int .i64 t1.initial) ∧ w14.cell? ⟨n0, 2, none⟩ = some (l1) ∧ w14.cell? ⟨n0, 3, none⟩ = some (e1)) := ⟨(XC1.out.below hP2).cell 0 rfl, (XC1.out.below hP2).cell 1 rfl, (XC1.out.below hP2).cell 2 rfl, (XC1.out.below hP2).cell 3 rfl, (X1.out.below hD2).cell 0 rfl, (X1.out.below hD2).cell 1 rfl, (X1.out.below hD2).cell 2 rfl, (X1.out.below hD2).cell 3 rfl⟩)
   | (go_at_call 19; refine (eqLts_same _ _ 0 0 t1 _ (CQ1.out.below hP2).at hc14.at).mono ?_; rintro e w15 ⟨rfl, hb15⟩; have hD3 := hD2.trans (hb15.mono hD2.size); have hP3 := hP2.trans (hb15.mono hP2.size); have G3 : Hid (w15.cell? ⟨kx1, 0, none⟩ = some (.int .i64 t1.states) ∧ w15.cell? ⟨kx1, 1, none⟩ = some (.int .i64 t1.initial) ∧ w15.cell? ⟨kx1, 2, none⟩ = some (.slice (some ⟨p11, 0, none⟩) t1.labels.length t1.labels.length) ∧ w15.cell? ⟨kx1, 3, none⟩ = some (.slice (some ⟨p12, 0, none⟩) t1.edges.length t1.edges.length) ∧ w15.cell? ⟨n0, 0, none⟩ = some (.int .i64 t1.states) ∧ w15.cell? ⟨n0, 1, none⟩ = some (.int .i64 t1.initial) ∧ w15.cell? ⟨n0, 2, none⟩ = some (l1) ∧ w15.cell? ⟨n0, 3, none⟩ = some (e1)) := ⟨(XC1.out.below hP3).cell 0 rfl, (XC1.out.below hP3).cell 1 rfl, (XC1.out.below hP3).cell 2 rfl, (XC1.out.below hP3).cell 3 rfl, (X1.out.below hD3).cell 0 rfl, (X1.out.below hD3).cell 1 rfl, (X1.out.below hD3).cell 2 rfl, (X1.out.below hD3).cell 3 rfl⟩))
 have hall15 : Below w13.heap.size w13 w15 := (((Below.refl w13.heap.size w13).drew).trans (hb14.mono (by simp))).trans (hb15.mono (Nat.le_trans (by simp) hb14.size))
 have D15 := Lib.hid (D13.out.trans (hall15.mono D13.out.size))
 have E15 := Lib.hid (E13.out.trans (hall15.mono E13.out.size))
 have P115 := Lib.hid (P113.out.trans (hall15.mono P113.out.size))
 have P215 := Lib.hid (P213.out.trans (hall15.mono P213.out.size))
 have I15 := Lib.hid (I13.out.trans (hall15.mono I13.out.size))
 have G15 := Lib.hid (G13.out.trans (hall15.mono G13.out.size))
 clear hDd hPd hD2 hP2 hD3 hP3 G0 G1 G2 G3 hall15 hb14 hc14 hb15
 go_wp2_with fail
 have hDd : Below W1.heap.size W1 w15.drew := D15.out.drew
 have hPd := (P215.out).drew
 have G0 : Hid (w15.cell? ⟨kx2, 0, none⟩ = some (.int .i64 t2.states) ∧ w15.cell? ⟨kx2, 1, none⟩ = some (.int .i64 t2.initial) ∧ w15.cell? ⟨kx2, 2, none⟩ = some (.slice (some ⟨p21, 0, none⟩) t2.labels.length t2.labels.length) ∧ w15.cell? ⟨kx2, 3, none⟩ = some (.slice (some ⟨p22, 0, none⟩) t2.edges.length t2.edges.length) ∧ w15.cell? ⟨n0 + 1, 0, none⟩ = some (.int .i64 t2.states) ∧ w15.cell? ⟨n0 + 1, 1, none⟩ = some (.int .i64 t2.initial) ∧ w15.cell? ⟨n0 + 1, 2, none⟩ = some (l2) ∧ w15.cell? ⟨n0 + 1, 3, none⟩ = some (e2)) := ⟨(XC2.out.below P215.out).cell 0 rfl, (XC2.out.below P215.out).cell 1 rfl, (XC2.out.below P215.out).cell 2 rfl, (XC2.out.below P215.out).cell 3 rfl, (X2.out.below D15.out).cell 0 rfl, (X2.out.below D15.out).cell 1 rfl, (X2.out.below D15.out).cell 2 rfl, (X2.out.below D15.out).cell 3 rfl⟩
 have G1 : Hid (w15.drew.cell? ⟨kx2, 0, none⟩ = some (.int .i64 t2.states) ∧ w15.drew.cell? ⟨kx2, 1, none⟩ = some (.int .i64 t2.initial) ∧ w15.drew.cell? ⟨kx2, 2, none⟩ = some (.slice (some ⟨p21, 0, none⟩) t2.labels.length t2.labels.length) ∧ w15.drew.cell? ⟨kx2, 3, none⟩ = some (.slice (some ⟨p22, 0, none⟩) t2.edges.length t2.edges.length) ∧ w15.drew.cell? ⟨n0 + 1, 0, none⟩ = some (.int .i64 t2.states) ∧ w15.drew.cell? ⟨n0 + 1, 1, none⟩ = some (.int .i64 t2.initial) ∧ w15.drew.cell? ⟨n0 + 1, 2, none⟩ = some (l2) ∧ w15.drew.cell? ⟨n0 + 1, 3, none⟩ = some (e2)) := ⟨(XC2.out.below hPd).cell 0 rfl, (XC2.out.below hPd).cell 1 rfl, (XC2.out.below hPd).cell 2 rfl, (XC2.out.below hPd).cell 3 rfl, (X2.out.below hDd).cell 0 rfl, (X2.out.below hDd).cell 1 rfl, (X2.out.below hDd).cell 2 rfl, (X2.out.below hDd).cell 3 rfl⟩
 go_region_held3 (fun w' => w'.cell? ⟨kx2, 0, none⟩ = some (.int .i64 t2.states) ∧ w'.cell? ⟨kx2, 1, none⟩ = some (.int .i64 t2.initial) ∧ w'.cell? ⟨kx2, 2, none⟩ = some (.slice (some ⟨p21, 0, none⟩) t2.labels.length t2.labels.length) ∧ w'.cell? ⟨kx2, 3, none⟩ = some (.slice (some ⟨p22, 0, none⟩) t2.edges.length t2.edges.length) ∧ w'.cell? ⟨n0 + 1, 0, none⟩ = some (.int .i64 t2.states) ∧ w'.cell? ⟨n0 + 1, 1, none⟩ = some (.int .i64 t2.initial) ∧ w'.cell? ⟨n0 + 1, 2, none⟩ = some (l2) ∧ w'.cell? ⟨n0 + 1, 3, none⟩ = some (e2))
  (first | exact G0.out | exact G1.out | exact G2.out | exact G3.out | go_keep)
  (first
   | (go_at_call 16; refine Calls.mono (HT2.out _ hDd) ?_; rintro e w16 ⟨b161, b162, rfl, hb16, hc16⟩; have hD2 := hDd.trans (hb16.mono hDd.size); have hP2 := hPd.trans (hb16.mono hPd.size); have G2 : Hid (w16.cell? ⟨kx2, 0, none⟩ = some (.int .i64 t2.states) ∧ w16.cell? ⟨kx2, 1, none⟩ = some (.int .i64 t2.initial) ∧ w16.cell? ⟨kx2, 2, none⟩ = some (.slice (some ⟨p21, 0, none⟩) t2.labels.length t2.labels.length) ∧ w16.cell? ⟨kx2, 3, none⟩ = some (.slice (some ⟨p22, 0, none⟩) t2.edges.length t2.edges.length) ∧ w16.cell? ⟨n0 + 1, 0, none⟩ = some (.int .i64 t2.states) ∧ w16.cell? ⟨n0 + 1, 1, none⟩ = some (.int .i64 t2.initial) ∧ w16.cell? ⟨n0 + 1, 2, none⟩ = some (l2) ∧ w16.cell? ⟨n0 + 1, 3, none⟩ = some (e2)) := ⟨(XC2.out.below hP2).cell 0 rfl, (XC2.out.below hP2).cell 1 rfl, (XC2.out.below hP2).cell 2 rfl, (XC2.out.below hP2).cell 3 rfl, (X2.out.below hD2).cell 0 rfl, (X2.out.below hD2).cell 1 rfl, (X2.out.below hD2).cell 2 rfl, (X2.out.below hD2).cell 3 rfl⟩)
   | (go_at_call 19; refine (eqLts_same _ _ 0 0 t2 _ (CQ2.out.below hP2).at hc16.at).mono ?_; rintro e w17 ⟨rfl, hb17⟩; have hD3 := hD2.trans (hb17.mono hD2.size); have hP3 := hP2.trans (hb17.mono hP2.size); have G3 : Hid (w17.cell? ⟨kx2, 0, none⟩ = some (.int .i64 t2.states) ∧ w17.cell? ⟨kx2, 1, none⟩ = some (.int .i64 t2.initial) ∧ w17.cell? ⟨kx2, 2, none⟩ = some (.slice (some ⟨p21, 0, none⟩) t2.labels.length t2.labels.length) ∧ w17.cell? ⟨kx2, 3, none⟩ = some (.slice (some ⟨p22, 0, none⟩) t2.edges.length t2.edges.length) ∧ w17.cell? ⟨n0 + 1, 0, none⟩ = some (.int .i64 t2.states) ∧ w17.cell? ⟨n0 + 1, 1, none⟩ = some (.int .i64 t2.initial) ∧ w17.cell? ⟨n0 + 1, 2, none⟩ = some (l2) ∧ w17.cell? ⟨n0 + 1, 3, none⟩ = some (e2)) := ⟨(XC2.out.below hP3).cell 0 rfl, (XC2.out.below hP3).cell 1 rfl, (XC2.out.below hP3).cell 2 rfl, (XC2.out.below hP3).cell 3 rfl, (X2.out.below hD3).cell 0 rfl, (X2.out.below hD3).cell 1 rfl, (X2.out.below hD3).cell 2 rfl, (X2.out.below hD3).cell 3 rfl⟩))
 have hall17 : Below w15.heap.size w15 w17 := (((Below.refl w15.heap.size w15).drew).trans (hb16.mono (by simp))).trans (hb17.mono (Nat.le_trans (by simp) hb16.size))
 have D17 := Lib.hid (D15.out.trans (hall17.mono D15.out.size))
 have E17 := Lib.hid (E15.out.trans (hall17.mono E15.out.size))
 have P117 := Lib.hid (P115.out.trans (hall17.mono P115.out.size))
 have P217 := Lib.hid (P215.out.trans (hall17.mono P215.out.size))
 have I17 := Lib.hid (I15.out.trans (hall17.mono I15.out.size))
 have G17 := Lib.hid (G15.out.trans (hall17.mono G15.out.size))
 clear hDd hPd hD2 hP2 hD3 hP3 G0 G1 G2 G3 hall17 hb16 hc16 hb17
 have HWIc : Hid (w10.heap.size ≤ w17.heap.size) := (I17.out).size
 have hcq := CQ1.out.below P117.out
 have hln := HLN1.out
 have hb6 := HB61.out
 have hbx := HBX1.out
 have hkl := (XC1.out.below P117.out).lt
 obtain ⟨N1, hN1⟩ : ∃ N : Int, N = 1 + (t1.labels.length : Int) + 3 * (t1.edges.length : Int) := ⟨_, rfl⟩
 have hNz1 : 0 ≤ N1 := by omega
 have hNb1 : N1 ≤ 5000000 := by omega
 have HM := Lib.hid (markLts_any w6.heap.size kx1 p11 p12 t1.labels.length t1.edges.length t1.states t1.initial _ _ 1 w17 (by decide) (by omega) hcq.h1 (by have := hcq.h2; omega) (by have := hcq.h1; have := hcq.h2; omega) hb6 (by omega) (by have := hcq.h2; omega) hcq.o1 (own_lower hcq.o2 (by have := hcq.h1; have := hcq.h2; omega)))
 rw [← hN1] at HM
 have HN1 := Lib.hid hN1
 have hlow := hcq.h1
 have HLW : Hid (w6.heap.size ≤ w17.heap.size) := by unfold Hid; omega
 obtain ⟨x0, x1, x2, x3⟩ := blk4 (XC1.out.below P117.out)
 clear hcq hln hb6 hbx hlow hN1
 go_wp2_with fail
 refine Calls.mono HM.out ?_
 rintro e w18 ⟨rfl, ht18⟩
 have hb18 : Below w6.heap.size w17 w18 := below_turns ht18 HLW.out
 have D18 := Lib.hid (D17.out.trans (hb18.mono (show W1.heap.size ≤ w6.heap.size from by have := HWS1.out; have := HBS1.out; omega)))
 have E18 := Lib.hid ((E17.out).trans (hb18.mono (show w6.heap.size ≤ w6.heap.size from by have := HBS1.out; have := HSS.out; omega)))
 have XC2' : Hid (Blk w18 kx2 _ 31) := (XC2.out.below P217.out).turns ht18 (.inr (by have := HBX2.out; have := HZX1.out; have := HBS2.out; omega))
 have CQ2' := Lib.hid ((CQ2.out.below P217.out).turns ht18 (by have := HZX1.out; have := HBS2.out; omega))
 clear XC2 CQ2
 have XC2 := XC2'
 clear XC2'
 have CQ2 := CQ2'
 clear CQ2'
 have HOGx1 := Lib.hid ((HOG1.out.below G17.out).turns ht18 (show kx1 ≤ w10.heap.size from by have := HZX1.out; have := HWI1.out; omega))
 clear HOG1
 have HOG1 := HOGx1
 clear HOGx1
 have HOGx2 := Lib.hid ((HOG2.out.below G17.out).turns ht18 (show kx1 ≤ w10.heap.size from by have := HZX1.out; have := HWI1.out; omega))
 clear HOG2
 have HOG2 := HOGx2
 clear HOGx2
 have HWM18 : Hid (w10.heap.size ≤ w18.heap.size) := by have := HWIc.out; have := ht18.size; unfold Hid; omega
 clear HWIc
 have HWIc := HWM18
 clear HWM18
 clear x0 x1 x2 x3 hkl HM HLW hb18 ht18
 have hcq := CQ2.out.below (Below.refl w18.heap.size w18)
 have hln := HLN2.out
 have hb6 := HB62.out
 have hbx := HBX2.out
 have hkl := (XC2.out.below (Below.refl w18.heap.size w18)).lt
 obtain ⟨N2, hN2⟩ : ∃ N : Int, N = N1 + (t2.labels.length : Int) + 3 * (t2.edges.length : Int) := ⟨_, rfl⟩
 have hNz2 : 0 ≤ N2 := by omega
 have hNb2 : N2 ≤ 10000000 := by omega
 have HM := Lib.hid (markLts_any w8.heap.size kx2 p21 p22 t2.labels.length t2.edges.length t2.states t2.initial _ _ N1 w18 hNz1 (by omega) hcq.h1 (by have := hcq.h2; omega) (by have := hcq.h1; have := hcq.h2; omega) hb6 (by omega) (by have := hcq.h2; omega) hcq.o1 (own_lower hcq.o2 (by have := hcq.h1; have := hcq.h2; omega)))
 rw [← hN2] at HM
 have HN2 := Lib.hid hN2
 have hlow := hcq.h1
 have HLW : Hid (w8.heap.size ≤ w18.heap.size) := by unfold Hid; omega
 obtain ⟨x0, x1, x2, x3⟩ := blk4 (XC2.out.below (Below.refl w18.heap.size w18))
 clear hcq hln hb6 hbx hlow hN2
 go_wp2_with fail
 refine Calls.mono HM.out ?_
 rintro e w19 ⟨rfl, ht19⟩
 have hb19 : Below w8.heap.size w18 w19 := below_turns ht19 HLW.out
 have D19 := Lib.hid (D18.out.trans (hb19.mono (show W1.heap.size ≤ w8.heap.size from by have := HWS1.out; have := HBS2.out; omega)))
 have E19 := Lib.hid ((E18.out).trans (hb19.mono (show w6.heap.size ≤ w8.heap.size from by have := HBS2.out; have := HSS.out; omega)))
 have HOGx1 := Lib.hid ((HOG1.out.below (Below.refl w18.heap.size w18)).turns ht19 (show kx2 ≤ w10.heap.size from by have := HZX2.out; have := HWI2.out; omega))
 clear HOG1
 have HOG1 := HOGx1
 clear HOGx1
 have HOGx2 := Lib.hid ((HOG2.out.below (Below.refl w18.heap.size w18)).turns ht19 (show kx2 ≤ w10.heap.size from by have := HZX2.out; have := HWI2.out; omega))
 clear HOG2
 have HOG2 := HOGx2
 clear HOGx2
 have HWM19 : Hid (w10.heap.size ≤ w19.heap.size) := by have := HWIc.out; have := ht19.size; unfold Hid; omega
 clear HWIc
 have HWIc := HWM19
 clear HWM19
 clear x0 x1 x2 x3 hkl HM HLW hb19 ht19
 go_wp2_with fail
 refine (eqStringS_same _ _ _ _ xs _ ((HOG1.out.below (Below.refl w19.heap.size w19)).at) ((HOS1.out.below E19.out).at)).mono ?_
 rintro e w20 ⟨rfl, hb20⟩
 have D20 := Lib.hid (D19.out.trans (hb20.mono D19.out.size))
 have E20 := Lib.hid (E19.out.trans (hb20.mono E19.out.size))
 have G20 := Lib.hid hb20
 clear hb20
 go_wp2_with fail
 refine (eqStringS_same _ _ _ _ ys _ ((HOG2.out.below G20.out).at) ((HOS2.out.below E20.out).at)).mono ?_
 rintro e w21 ⟨rfl, hb21⟩
 have D21 := Lib.hid (D20.out.trans (hb21.mono D20.out.size))
 have E21 := Lib.hid (E20.out.trans (hb21.mono E20.out.size))
 have G21 := Lib.hid (G20.out.trans (hb21.mono G20.out.size))
 clear hb21
 have hwI : w10.heap.size ≤ w21.heap.size := by have := HWIc.out; have := (G21.out).size; omega
 have hfew := HIS.out.few
 obtain ⟨Z0, hZ0⟩ : ∃ Z : Int, Z = 1 + (xs.length : Int) := ⟨_, rfl⟩
 have hZz0 : 0 ≤ Z0 ∧ Z0 ≤ 10000000 := by omega
 have HMK := Lib.hid (markStrs_is2 w10.heap.size _ xs 1 _ (by decide) (by omega) hwI (HOG1.out.below G21.out))
 rw [← hZ0] at HMK
 have HZZ0 := Lib.hid hZ0
 clear hZ0
 go_wp2_with fail
 refine Calls.mono HMK.out ?_
 rintro e w22 ⟨rfl, hb22, hom, hon, hgr⟩
 have HGR := Lib.hid hgr
 clear hgr
 have HOM := Lib.hid hom
 have HON := Lib.hid hon
 have D22 := Lib.hid (D21.out.trans (hb22.mono (show W1.heap.size ≤ w10.heap.size from by have := HWS1.out; have := HWIS.out; omega)))
 have E22 := Lib.hid ((E21.out).trans (hb22.mono (show w6.heap.size ≤ w10.heap.size from by have := HWIS.out; have := HSS.out; omega)))
 have HOGx2 := Lib.hid (OwnStrs.keptG (HOG2.out.below G21.out) HGR.out (HFARG.out.symm.or))
 clear HOG2
 have HOG2 := HOGx2
 clear HOGx2
 clear HOG1
 have HOG1 := HOM
 clear HOM
 have hwI' : w10.heap.size ≤ w22.heap.size := Nat.le_trans hwI hb22.size
 clear hwI hb22 hom hon HON HMK
 have hwI := hwI'
 clear hwI'
 obtain ⟨Z1, hZ1⟩ : ∃ Z : Int, Z = Z0 + (ys.length : Int) := ⟨_, rfl⟩
 have hZz1 : 0 ≤ Z1 ∧ Z1 ≤ 20000000 := by omega
 have HMK := Lib.hid (markStrs_is2 w10.heap.size _ ys Z0 _ hZz0.1 (by omega) hwI (HOG2.out.below (Below.refl w22.heap.size w22)))
 rw [← hZ1] at HMK
 have HZZ1 := Lib.hid hZ1
 clear hZ1
 go_wp2_with fail
 refine Calls.mono HMK.out ?_
 rintro e w23 ⟨rfl, hb23, hom, hon, hgr⟩
 have HGR := Lib.hid hgr
 clear hgr
 have HOM := Lib.hid hom
 have HON := Lib.hid hon
 have D23 := Lib.hid (D22.out.trans (hb23.mono (show W1.heap.size ≤ w10.heap.size from by have := HWS1.out; have := HWIS.out; omega)))
 have E23 := Lib.hid ((E22.out).trans (hb23.mono (show w6.heap.size ≤ w10.heap.size from by have := HWIS.out; have := HSS.out; omega)))
 have HOGx1 := Lib.hid (OwnStrs.keptG (HOG1.out.below (Below.refl w22.heap.size w22)) HGR.out (HFARG.out.or))
 clear HOG1
 have HOG1 := HOGx1
 clear HOGx1
 clear HOG2
 have HOG2 := HOM
 clear HOM
 have hwI' : w10.heap.size ≤ w23.heap.size := Nat.le_trans hwI hb23.size
 clear hwI hb23 hom hon HON HMK
 have hwI := hwI'
 clear hwI'
 have HHE := Lib.hid (heldStrs_is w10.heap.size _ xs 1 _ (by decide) (by have := HZZ0.out; have := hZz0; omega) (HOG1.out.below (Below.refl w23.heap.size w23)))
 rw [← HZZ0.out] at HHE
 go_wp2_with fail
 refine Calls.mono HHE.out ?_
 rintro e w24 ⟨rfl, hb24⟩
 have D24 := Lib.hid (D23.out.trans (hb24.mono D23.out.size))
 have E24 := Lib.hid (E23.out.trans (hb24.mono E23.out.size))
 have G24 := Lib.hid hb24
 clear hb24 HHE
 have HHE := Lib.hid (heldStrs_is w10.heap.size _ ys Z0 _ hZz0.1 (by have := HZZ1.out; have := hZz1; omega) (HOG2.out.below G24.out))
 rw [← HZZ1.out] at HHE
 go_wp2_with fail
 refine Calls.mono HHE.out ?_
 rintro e w25 ⟨rfl, hb25⟩
 have D25 := Lib.hid (D24.out.trans (hb25.mono D24.out.size))
 have E25 := Lib.hid (E24.out.trans (hb25.mono E24.out.size))
 have G25 := Lib.hid (G24.out.trans (hb25.mono G24.out.size))
 clear hb25 HHE
 go_wp2_with fail
 have hDd : Below W1.heap.size W1 w25.drew := D25.out.drew
 have G0 : Hid (w25.cell? ⟨n0, 0, none⟩ = some (.int .i64 t1.states) ∧ w25.cell? ⟨n0, 1, none⟩ = some (.int .i64 t1.initial) ∧ w25.cell? ⟨n0, 2, none⟩ = some (l1) ∧ w25.cell? ⟨n0, 3, none⟩ = some (e1) ∧ w25.cell? ⟨n0 + 1, 0, none⟩ = some (.int .i64 t2.states) ∧ w25.cell? ⟨n0 + 1, 1, none⟩ = some (.int .i64 t2.initial) ∧ w25.cell? ⟨n0 + 1, 2, none⟩ = some (l2) ∧ w25.cell? ⟨n0 + 1, 3, none⟩ = some (e2)) := ⟨(X1.out.below D25.out).cell 0 rfl, (X1.out.below D25.out).cell 1 rfl, (X1.out.below D25.out).cell 2 rfl, (X1.out.below D25.out).cell 3 rfl, (X2.out.below D25.out).cell 0 rfl, (X2.out.below D25.out).cell 1 rfl, (X2.out.below D25.out).cell 2 rfl, (X2.out.below D25.out).cell 3 rfl⟩
 have G1 : Hid (w25.drew.cell? ⟨n0, 0, none⟩ = some (.int .i64 t1.states) ∧ w25.drew.cell? ⟨n0, 1, none⟩ = some (.int .i64 t1.initial) ∧ w25.drew.cell? ⟨n0, 2, none⟩ = some (l1) ∧ w25.drew.cell? ⟨n0, 3, none⟩ = some (e1) ∧ w25.drew.cell? ⟨n0 + 1, 0, none⟩ = some (.int .i64 t2.states) ∧ w25.drew.cell? ⟨n0 + 1, 1, none⟩ = some (.int .i64 t2.initial) ∧ w25.drew.cell? ⟨n0 + 1, 2, none⟩ = some (l2) ∧ w25.drew.cell? ⟨n0 + 1, 3, none⟩ = some (e2)) := ⟨(X1.out.below hDd).cell 0 rfl, (X1.out.below hDd).cell 1 rfl, (X1.out.below hDd).cell 2 rfl, (X1.out.below hDd).cell 3 rfl, (X2.out.below hDd).cell 0 rfl, (X2.out.below hDd).cell 1 rfl, (X2.out.below hDd).cell 2 rfl, (X2.out.below hDd).cell 3 rfl⟩
 go_region_held3 (fun w' => w'.cell? ⟨n0, 0, none⟩ = some (.int .i64 t1.states) ∧ w'.cell? ⟨n0, 1, none⟩ = some (.int .i64 t1.initial) ∧ w'.cell? ⟨n0, 2, none⟩ = some (l1) ∧ w'.cell? ⟨n0, 3, none⟩ = some (e1) ∧ w'.cell? ⟨n0 + 1, 0, none⟩ = some (.int .i64 t2.states) ∧ w'.cell? ⟨n0 + 1, 1, none⟩ = some (.int .i64 t2.initial) ∧ w'.cell? ⟨n0 + 1, 2, none⟩ = some (l2) ∧ w'.cell? ⟨n0 + 1, 3, none⟩ = some (e2))
  (first | exact G0.out | exact G1.out | exact G2.out | exact G3.out | exact G4.out | go_keep)
  (first
   | (go_at_call_of 16 (Value.agg #[Value.int .i64 t1.states, Value.int .i64 t1.initial, l1, e1]); refine Calls.mono (HT1.out _ hDd) ?_; rintro e w26 ⟨b261, b262, rfl, hb26, hc26⟩; have hD26 := hDd.trans (hb26.mono hDd.size); have G2 : Hid (w26.cell? ⟨n0, 0, none⟩ = some (.int .i64 t1.states) ∧ w26.cell? ⟨n0, 1, none⟩ = some (.int .i64 t1.initial) ∧ w26.cell? ⟨n0, 2, none⟩ = some (l1) ∧ w26.cell? ⟨n0, 3, none⟩ = some (e1) ∧ w26.cell? ⟨n0 + 1, 0, none⟩ = some (.int .i64 t2.states) ∧ w26.cell? ⟨n0 + 1, 1, none⟩ = some (.int .i64 t2.initial) ∧ w26.cell? ⟨n0 + 1, 2, none⟩ = some (l2) ∧ w26.cell? ⟨n0 + 1, 3, none⟩ = some (e2)) := ⟨(X1.out.below hD26).cell 0 rfl, (X1.out.below hD26).cell 1 rfl, (X1.out.below hD26).cell 2 rfl, (X1.out.below hD26).cell 3 rfl, (X2.out.below hD26).cell 0 rfl, (X2.out.below hD26).cell 1 rfl, (X2.out.below hD26).cell 2 rfl, (X2.out.below hD26).cell 3 rfl⟩)
   | (go_at_call_of 16 (Value.agg #[Value.int .i64 t2.states, Value.int .i64 t2.initial, l2, e2]); refine Calls.mono (HT2.out _ hD26) ?_; rintro e w27 ⟨b271, b272, rfl, hb27, hc27⟩; have hD27 := hD26.trans (hb27.mono hD26.size); have G3 : Hid (w27.cell? ⟨n0, 0, none⟩ = some (.int .i64 t1.states) ∧ w27.cell? ⟨n0, 1, none⟩ = some (.int .i64 t1.initial) ∧ w27.cell? ⟨n0, 2, none⟩ = some (l1) ∧ w27.cell? ⟨n0, 3, none⟩ = some (e1) ∧ w27.cell? ⟨n0 + 1, 0, none⟩ = some (.int .i64 t2.states) ∧ w27.cell? ⟨n0 + 1, 1, none⟩ = some (.int .i64 t2.initial) ∧ w27.cell? ⟨n0 + 1, 2, none⟩ = some (l2) ∧ w27.cell? ⟨n0 + 1, 3, none⟩ = some (e2)) := ⟨(X1.out.below hD27).cell 0 rfl, (X1.out.below hD27).cell 1 rfl, (X1.out.below hD27).cell 2 rfl, (X1.out.below hD27).cell 3 rfl, (X2.out.below hD27).cell 0 rfl, (X2.out.below hD27).cell 1 rfl, (X2.out.below hD27).cell 2 rfl, (X2.out.below hD27).cell 3 rfl⟩)
   | (go_at_call 30; refine Calls.mono (HIMPL.out _ _ _ _ _ (hc26.below hb27).labels (hc26.below hb27).edges hc27.labels hc27.edges (HG.out.below hD27)) ?_; rintro e w28 ⟨hb28, rh, xsh, ysh, codeh, vH, uH, rfl, hisH, hoH1, hoH2, hfarH⟩; have hD28 := hD27.trans (hb28.mono hD27.size); have G4 : Hid (w28.cell? ⟨n0, 0, none⟩ = some (.int .i64 t1.states) ∧ w28.cell? ⟨n0, 1, none⟩ = some (.int .i64 t1.initial) ∧ w28.cell? ⟨n0, 2, none⟩ = some (l1) ∧ w28.cell? ⟨n0, 3, none⟩ = some (e1) ∧ w28.cell? ⟨n0 + 1, 0, none⟩ = some (.int .i64 t2.states) ∧ w28.cell? ⟨n0 + 1, 1, none⟩ = some (.int .i64 t2.initial) ∧ w28.cell? ⟨n0 + 1, 2, none⟩ = some (l2) ∧ w28.cell? ⟨n0 + 1, 3, none⟩ = some (e2)) := ⟨(X1.out.below hD28).cell 0 rfl, (X1.out.below hD28).cell 1 rfl, (X1.out.below hD28).cell 2 rfl, (X1.out.below hD28).cell 3 rfl, (X2.out.below hD28).cell 0 rfl, (X2.out.below hD28).cell 1 rfl, (X2.out.below hD28).cell 2 rfl, (X2.out.below hD28).cell 3 rfl⟩))
 have hall28 : Below w25.heap.size w25 w28 := ((((Below.refl w25.heap.size w25).drew).trans (hb26.mono (by simp))).trans (hb27.mono (Nat.le_trans (by simp) hb26.size))).trans (hb28.mono (Nat.le_trans (Nat.le_trans (by simp) hb26.size) hb27.size))
 have hsw28 : w25.heap.size ≤ w27.heap.size := Nat.le_trans (Nat.le_trans (show w25.heap.size ≤ w25.drew.heap.size by simp) hb26.size) hb27.size
 obtain ⟨hq0, hq1, hq2, hq3⟩ := HIS.out.unique hisH
 subst hq0 hq1 hq2 hq3
 have HOH1 := Lib.hid hoH1
 have HOH2 := Lib.hid hoH2
 have D28 := Lib.hid (D25.out.trans (hall28.mono D25.out.size))
 have E28 := Lib.hid (E25.out.trans (hall28.mono E25.out.size))
 have G28 := Lib.hid (G25.out.trans (hall28.mono G25.out.size))
 clear hisH hoH1 hoH2 hfarH hall28 hb26 hb27 hb28 hc26 hc27 hDd hD26 hD27 hD28 G0 G1 G2 G3 G4
 go_wp2_with fail
 refine (eqStringS_same _ _ _ _ xs _ ((HOH1.out.below (Below.refl w28.heap.size w28)).at) ((HOS1.out.below E28.out).at)).mono ?_
 rintro e w29 ⟨rfl, hb29⟩
 have D29 := Lib.hid (D28.out.trans (hb29.mono D28.out.size))
 have E29 := Lib.hid (E28.out.trans (hb29.mono E28.out.size))
 have G29 := Lib.hid (G28.out.trans (hb29.mono G28.out.size))
 have H29 := Lib.hid hb29
 clear hb29
 go_wp2_with fail
 refine (eqStringS_same _ _ _ _ ys _ ((HOH2.out.below H29.out).at) ((HOS2.out.below E29.out).at)).mono ?_
 rintro e w30 ⟨rfl, hb30⟩
 have D30 := Lib.hid (D29.out.trans (hb30.mono D29.out.size))
 have E30 := Lib.hid (E29.out.trans (hb30.mono E29.out.size))
 have G30 := Lib.hid (G29.out.trans (hb30.mono G29.out.size))
 have H30 := Lib.hid (H29.out.trans (hb30.mono H29.out.size))
 clear hb30
 have HHE := Lib.hid (heldStrs_is w10.heap.size _ xs 1 _ (by decide) (by have := HZZ0.out; have := hZz0; omega) (HOG1.out.below G30.out))
 rw [← HZZ0.out] at HHE
 go_wp2_with fail
 refine Calls.mono HHE.out ?_
 rintro e w31 ⟨rfl, hb31⟩
 have D31 := Lib.hid (D30.out.trans (hb31.mono D30.out.size))
 have E31 := Lib.hid (E30.out.trans (hb31.mono E30.out.size))
 have G31 := Lib.hid (G30.out.trans (hb31.mono G30.out.size))
 have H31 := Lib.hid (H30.out.trans (hb31.mono H30.out.size))
 clear hb31 HHE
 have HHE := Lib.hid (heldStrs_is w10.heap.size _ ys Z0 _ hZz0.1 (by have := HZZ1.out; have := hZz1; omega) (HOG2.out.below G31.out))
 rw [← HZZ1.out] at HHE
 go_wp2_with fail
 refine Calls.mono HHE.out ?_
 rintro e w32 ⟨rfl, hb32⟩
 have D32 := Lib.hid (D31.out.trans (hb32.mono D31.out.size))
 have E32 := Lib.hid (E31.out.trans (hb32.mono E31.out.size))
 have G32 := Lib.hid (G31.out.trans (hb32.mono G31.out.size))
 have H32 := Lib.hid (H31.out.trans (hb32.mono H31.out.size))
 clear hb32 HHE
 go_wp2_with fail
 go_ret
 exact ⟨rfl, HB1.out.trans (D32.out.mono HB1.out.size)⟩

end Go.Proofs.YtpoleaekcjjedaaGreatDoor
