/-
  For all arguments the law FnExactSimulationOf answers true: the walk that joins both sides.
-/
import Derived.Test.YtbjbjbnbapeajaaGreatDoorQ15
import Derived.Test.YtbjbjbnbapeajaaGreatDoorQ16
import Derived.Test.YtbjbjbnbapeajaaGreatDoorQ10
import Derived.Deep.RegionHeld3
namespace Go.Proofs.YtbjbjbnbapeajaaGreatDoor
open Go Go.RowKit

set_option maxRecDepth 100000 in
set_option maxHeartbeats 4000000 in
theorem lawSimulationOf (lo : Nat) (t1 : Lts) (l1 e1 : Value) (t2 : Lts) (l2 e2 : Value) (q1 : Int) (w : World) (hs1 : SliceK 1 encS lo w l1 t1.labels) (he1 : SliceK 3 encE lo w e1 t1.edges) (hk1 : StrsOk t1.labels) (hs2 : SliceK 1 encS lo w l2 t2.labels) (he2 : SliceK 3 encE lo w e2 t2.edges) (hk2 : StrsOk t2.labels) (g : Glob w) :
  Calls Tryz.prog 4 #[.agg #[.int .i64 t1.states, .int .i64 t1.initial, l1, e1], .agg #[.int .i64 t2.states, .int .i64 t2.initial, l2, e2], .int .i64 q1] w fun e w' => e = .returned (.bool true) ∧ Below w.heap.size w w' := by
 obtain ⟨n0, hn0⟩ : ∃ n0, n0 = w.heap.size := ⟨_, rfl⟩
 obtain ⟨W1, hW1⟩ : ∃ W1, W1 = ((w.alloc (.cells #[.int .i64 t1.states, .int .i64 t1.initial, l1, e1] 25)).alloc (.cells #[.int .i64 t2.states, .int .i64 t2.initial, l2, e2] 25)) := ⟨_, rfl⟩
 have hB1 : Below w.heap.size w W1 := by rw [hW1]; exact (((Below.refl _ _).alloc (by simp) _).alloc (by simp) _)
 have hX1 : Blk W1 (n0) [.int .i64 t1.states, .int .i64 t1.initial, l1, e1] 25 := by
  have h := Blk.new w [.int .i64 t1.states, .int .i64 t1.initial, l1, e1] 25
  rw [← hn0] at h
  rw [hW1]
  exact h.alloc _
 have hX2 : Blk W1 (n0 + 1) [.int .i64 t2.states, .int .i64 t2.initial, l2, e2] 25 := by
  have h := Blk.new (w.alloc (.cells #[.int .i64 t1.states, .int .i64 t1.initial, l1, e1] 25)) [.int .i64 t2.states, .int .i64 t2.initial, l2, e2] 25
  rw [World.size_alloc, ← hn0] at h
  rw [hW1]
  exact h
 have HS1 := Lib.hid (hs1.below hB1)
 have HE1 := Lib.hid (he1.below hB1)
 have K1 := Lib.hid hk1
 have X1 := Lib.hid hX1
 have HS2 := Lib.hid (hs2.below hB1)
 have HE2 := Lib.hid (he2.below hB1)
 have K2 := Lib.hid hk2
 have X2 := Lib.hid hX2
 have HG := Lib.hid (g.below hB1)
 have HB1 := Lib.hid hB1
 have HW1 := Lib.hid hW1
 have HN0 := Lib.hid hn0
 clear g hB1 hW1 hn0 hs1 he1 hk1 hX1 hs2 he2 hk2 hX2
 have HC1 := Lib.hid (fun w' (hb : Below W1.heap.size W1 w') => szLts_any (.agg #[.int .i64 t1.states, .int .i64 t1.initial, l1, e1]) lo t1 1048576 w' (by decide) (by decide) K1.out ⟨l1, e1, rfl, HS1.out.below hb, HE1.out.below hb⟩)
 by_cases c1 : szL t1 1048576 < 0
 ·clear HG 
  go_enter Tryz.func4, Tryz.ntmps4
  go_wp2_with fail
  rw [← HW1.out]
  refine Calls.mono (HC1.out _ (Below.refl _ _)) ?_
  rintro e y1 ⟨rfl, hb1⟩
  have D1 := Lib.hid hb1
  clear hb1
  go_wp2_with fail
  go_ret
  exact ⟨rfl, HB1.out.trans (D1.out.mono HB1.out.size)⟩
 have hfit1 := szL_fit (t := t1) (left := 1048576) (by decide) (by omega)
 obtain ⟨M1, hM1⟩ : ∃ M1, M1 = szL t1 1048576 := ⟨_, rfl⟩
 rw [← hM1] at c1 hfit1 HC1
 have HMM1 := Lib.hid hM1
 clear hM1
 have hLz1 : 0 ≤ M1 := by omega
 have hLe1 : M1 ≤ 1048576 := by omega
 have HC2 := Lib.hid (fun w' (hb : Below W1.heap.size W1 w') => szLts_any (.agg #[.int .i64 t2.states, .int .i64 t2.initial, l2, e2]) lo t2 M1 w' hLz1 hLe1 K2.out ⟨l2, e2, rfl, HS2.out.below hb, HE2.out.below hb⟩)
 by_cases c2 : szL t2 M1 < 0
 ·clear HG hLe1 hfit1
  go_enter Tryz.func4, Tryz.ntmps4
  go_wp2_with fail
  rw [← HW1.out]
  refine Calls.mono (HC1.out _ (Below.refl _ _)) ?_
  rintro e y1 ⟨rfl, hb1⟩
  have D1 := Lib.hid hb1
  obtain ⟨x0, x1, x2, x3⟩ := blk4 (X2.out.below D1.out)
  rw [← HN0.out]
  clear hb1
  go_wp2_with fail
  refine Calls.mono (HC2.out _ D1.out) ?_
  rintro e y2 ⟨rfl, hb2⟩
  have D2 := Lib.hid (D1.out.trans (hb2.mono D1.out.size))
  clear x0 x1 x2 x3
  clear hb2
  go_wp2_with fail
  go_ret
  exact ⟨rfl, HB1.out.trans (D2.out.mono HB1.out.size)⟩
 have hfit2 := szL_fit (t := t2) (left := M1) hLz1 (by omega)
 obtain ⟨M2, hM2⟩ : ∃ M2, M2 = szL t2 M1 := ⟨_, rfl⟩
 rw [← hM2] at c2 hfit2 HC2
 have HMM2 := Lib.hid hM2
 clear hM2
 have hLz2 : 0 ≤ M2 := by omega
 have hLe2 : M2 ≤ 1048576 := by omega
 have hll1 : t1.labels.length ≤ 1048576 := by omega
 have hel1 : t1.edges.length ≤ 1048576 := by omega
 have J1 : Hid (Short20 t1.labels) := fun i hi => by have := hfit1.2.2.1 _ (List.getElem_mem hi); omega
 have I1 : Hid (Short t1.labels) := fun i hi => Nat.le_trans (J1.out i hi) (by decide)
 have HT1 : Hid (∀ w', Below W1.heap.size W1 w' → Calls Tryz.prog 7 #[.agg #[.int .i64 t1.states, .int .i64 t1.initial, l1, e1]] w' (CopyMade t1 w')) := fun w' hb => copy_any lo t1 _ _ w' hll1 hel1 (HS1.out.below hb) (HE1.out.below hb)
 have HLN1 : Hid (t1.labels.length ≤ 1048576 ∧ t1.edges.length ≤ 1048576) := ⟨hll1, hel1⟩
 have hll2 : t2.labels.length ≤ 1048576 := by omega
 have hel2 : t2.edges.length ≤ 1048576 := by omega
 have J2 : Hid (Short20 t2.labels) := fun i hi => by have := hfit2.2.2.1 _ (List.getElem_mem hi); omega
 have I2 : Hid (Short t2.labels) := fun i hi => Nat.le_trans (J2.out i hi) (by decide)
 have HT2 : Hid (∀ w', Below W1.heap.size W1 w' → Calls Tryz.prog 7 #[.agg #[.int .i64 t2.states, .int .i64 t2.initial, l2, e2]] w' (CopyMade t2 w')) := fun w' hb => copy_any lo t2 _ _ w' hll2 hel2 (HS2.out.below hb) (HE2.out.below hb)
 have HLN2 : Hid (t2.labels.length ≤ 1048576 ∧ t2.edges.length ≤ 1048576) := ⟨hll2, hel2⟩
 have HSPEC : Hid (∀ (a1 b1 : Value) (a2 b2 : Value) (w' : World), SliceK 1 encS 0 w' a1 t1.labels → SliceK 3 encE 0 w' b1 t1.edges → SliceK 1 encS 0 w' a2 t2.labels → SliceK 3 encE 0 w' b2 t2.edges → Calls Tryz.prog 12 #[.agg #[.int .i64 t1.states, .int .i64 t1.initial, a1, b1], .agg #[.int .i64 t2.states, .int .i64 t2.initial, a2, b2], .int .i64 q1] w' (RetSim t1 t2 q1 w')) := fun _ _ _ _ w' h1 k1 h2 k2 => specSim_law 0 t1 _ _ t2 _ _ q1 w' I1.out I2.out h1 k1 h2 k2
 have HIMPL : Hid (∀ (a1 b1 : Value) (a2 b2 : Value) (w' : World), SliceK 1 encS 0 w' a1 t1.labels → SliceK 3 encE 0 w' b1 t1.edges → SliceK 1 encS 0 w' a2 t2.labels → SliceK 3 encE 0 w' b2 t2.edges → Glob w' → Calls Tryz.prog 13 #[.agg #[.int .i64 t1.states, .int .i64 t1.initial, a1, b1], .agg #[.int .i64 t2.states, .int .i64 t2.initial, a2, b2], .int .i64 q1] w' (RetSim t1 t2 q1 w')) := fun _ _ _ _ w' h1 k1 h2 k2 hg => implSim_law 0 t1 _ _ t2 _ _ q1 w' J1.out J2.out h1 k1 h2 k2 hg
 clear hfit1 hll1 hel1 hfit2 hll2 hel2
 go_enter Tryz.func4, Tryz.ntmps4
 go_wp2_with fail
 rw [← HW1.out]
 refine Calls.mono (HC1.out _ (Below.refl _ _)) ?_
 rintro e w2 ⟨rfl, hb2⟩
 have D2 := Lib.hid hb2
 clear hb2 HC1
 obtain ⟨x0, x1, x2, x3⟩ := blk4 (X2.out.below D2.out)
 rw [← HN0.out]
 go_wp2_with fail
 refine Calls.mono (HC2.out _ D2.out) ?_
 rintro e w3 ⟨rfl, hb3⟩
 have D3 := Lib.hid (D2.out.trans (hb3.mono D2.out.size))
 clear hb3 HC2 x0 x1 x2 x3
 go_wp2_with fail
 have hDd : Below W1.heap.size W1 w3.drew := D3.out.drew
 have G0 : Hid (w3.cell? ⟨n0, 0, none⟩ = some (.int .i64 t1.states) ∧ w3.cell? ⟨n0, 1, none⟩ = some (.int .i64 t1.initial) ∧ w3.cell? ⟨n0, 2, none⟩ = some (l1) ∧ w3.cell? ⟨n0, 3, none⟩ = some (e1) ∧ w3.cell? ⟨n0 + 1, 0, none⟩ = some (.int .i64 t2.states) ∧ w3.cell? ⟨n0 + 1, 1, none⟩ = some (.int .i64 t2.initial) ∧ w3.cell? ⟨n0 + 1, 2, none⟩ = some (l2) ∧ w3.cell? ⟨n0 + 1, 3, none⟩ = some (e2)) := ⟨(X1.out.below D3.out).cell 0 rfl, (X1.out.below D3.out).cell 1 rfl, (X1.out.below D3.out).cell 2 rfl, (X1.out.below D3.out).cell 3 rfl, (X2.out.below D3.out).cell 0 rfl, (X2.out.below D3.out).cell 1 rfl, (X2.out.below D3.out).cell 2 rfl, (X2.out.below D3.out).cell 3 rfl⟩
 have G1 : Hid (w3.drew.cell? ⟨n0, 0, none⟩ = some (.int .i64 t1.states) ∧ w3.drew.cell? ⟨n0, 1, none⟩ = some (.int .i64 t1.initial) ∧ w3.drew.cell? ⟨n0, 2, none⟩ = some (l1) ∧ w3.drew.cell? ⟨n0, 3, none⟩ = some (e1) ∧ w3.drew.cell? ⟨n0 + 1, 0, none⟩ = some (.int .i64 t2.states) ∧ w3.drew.cell? ⟨n0 + 1, 1, none⟩ = some (.int .i64 t2.initial) ∧ w3.drew.cell? ⟨n0 + 1, 2, none⟩ = some (l2) ∧ w3.drew.cell? ⟨n0 + 1, 3, none⟩ = some (e2)) := ⟨(X1.out.below hDd).cell 0 rfl, (X1.out.below hDd).cell 1 rfl, (X1.out.below hDd).cell 2 rfl, (X1.out.below hDd).cell 3 rfl, (X2.out.below hDd).cell 0 rfl, (X2.out.below hDd).cell 1 rfl, (X2.out.below hDd).cell 2 rfl, (X2.out.below hDd).cell 3 rfl⟩
 go_region_held3 (fun w' => w'.cell? ⟨n0, 0, none⟩ = some (.int .i64 t1.states) ∧ w'.cell? ⟨n0, 1, none⟩ = some (.int .i64 t1.initial) ∧ w'.cell? ⟨n0, 2, none⟩ = some (l1) ∧ w'.cell? ⟨n0, 3, none⟩ = some (e1) ∧ w'.cell? ⟨n0 + 1, 0, none⟩ = some (.int .i64 t2.states) ∧ w'.cell? ⟨n0 + 1, 1, none⟩ = some (.int .i64 t2.initial) ∧ w'.cell? ⟨n0 + 1, 2, none⟩ = some (l2) ∧ w'.cell? ⟨n0 + 1, 3, none⟩ = some (e2))
  (first | exact G0.out | exact G1.out | exact G2.out | exact G3.out | exact G4.out | go_keep)
  (first
   | (go_at_call_of 7 (Value.agg #[Value.int .i64 t1.states, Value.int .i64 t1.initial, l1, e1]); refine Calls.mono (HT1.out _ hDd) ?_; rintro e w4 ⟨b41, b42, rfl, hb4, hc4⟩; have hD4 := hDd.trans (hb4.mono hDd.size); have G2 : Hid (w4.cell? ⟨n0, 0, none⟩ = some (.int .i64 t1.states) ∧ w4.cell? ⟨n0, 1, none⟩ = some (.int .i64 t1.initial) ∧ w4.cell? ⟨n0, 2, none⟩ = some (l1) ∧ w4.cell? ⟨n0, 3, none⟩ = some (e1) ∧ w4.cell? ⟨n0 + 1, 0, none⟩ = some (.int .i64 t2.states) ∧ w4.cell? ⟨n0 + 1, 1, none⟩ = some (.int .i64 t2.initial) ∧ w4.cell? ⟨n0 + 1, 2, none⟩ = some (l2) ∧ w4.cell? ⟨n0 + 1, 3, none⟩ = some (e2)) := ⟨(X1.out.below hD4).cell 0 rfl, (X1.out.below hD4).cell 1 rfl, (X1.out.below hD4).cell 2 rfl, (X1.out.below hD4).cell 3 rfl, (X2.out.below hD4).cell 0 rfl, (X2.out.below hD4).cell 1 rfl, (X2.out.below hD4).cell 2 rfl, (X2.out.below hD4).cell 3 rfl⟩)
   | (go_at_call_of 7 (Value.agg #[Value.int .i64 t2.states, Value.int .i64 t2.initial, l2, e2]); refine Calls.mono (HT2.out _ hD4) ?_; rintro e w5 ⟨b51, b52, rfl, hb5, hc5⟩; have hD5 := hD4.trans (hb5.mono hD4.size); have G3 : Hid (w5.cell? ⟨n0, 0, none⟩ = some (.int .i64 t1.states) ∧ w5.cell? ⟨n0, 1, none⟩ = some (.int .i64 t1.initial) ∧ w5.cell? ⟨n0, 2, none⟩ = some (l1) ∧ w5.cell? ⟨n0, 3, none⟩ = some (e1) ∧ w5.cell? ⟨n0 + 1, 0, none⟩ = some (.int .i64 t2.states) ∧ w5.cell? ⟨n0 + 1, 1, none⟩ = some (.int .i64 t2.initial) ∧ w5.cell? ⟨n0 + 1, 2, none⟩ = some (l2) ∧ w5.cell? ⟨n0 + 1, 3, none⟩ = some (e2)) := ⟨(X1.out.below hD5).cell 0 rfl, (X1.out.below hD5).cell 1 rfl, (X1.out.below hD5).cell 2 rfl, (X1.out.below hD5).cell 3 rfl, (X2.out.below hD5).cell 0 rfl, (X2.out.below hD5).cell 1 rfl, (X2.out.below hD5).cell 2 rfl, (X2.out.below hD5).cell 3 rfl⟩)
   | (go_at_call 12; refine Calls.mono (HSPEC.out _ _ _ _ _ (hc4.below hb5).labels (hc4.below hb5).edges hc5.labels hc5.edges) ?_; rintro e w6 ⟨hb6, xss, code, vS, vsS, rfl, hisS, hoS0⟩; have hD6 := hD5.trans (hb6.mono hD5.size); have G4 : Hid (w6.cell? ⟨n0, 0, none⟩ = some (.int .i64 t1.states) ∧ w6.cell? ⟨n0, 1, none⟩ = some (.int .i64 t1.initial) ∧ w6.cell? ⟨n0, 2, none⟩ = some (l1) ∧ w6.cell? ⟨n0, 3, none⟩ = some (e1) ∧ w6.cell? ⟨n0 + 1, 0, none⟩ = some (.int .i64 t2.states) ∧ w6.cell? ⟨n0 + 1, 1, none⟩ = some (.int .i64 t2.initial) ∧ w6.cell? ⟨n0 + 1, 2, none⟩ = some (l2) ∧ w6.cell? ⟨n0 + 1, 3, none⟩ = some (e2)) := ⟨(X1.out.below hD6).cell 0 rfl, (X1.out.below hD6).cell 1 rfl, (X1.out.below hD6).cell 2 rfl, (X1.out.below hD6).cell 3 rfl, (X2.out.below hD6).cell 0 rfl, (X2.out.below hD6).cell 1 rfl, (X2.out.below hD6).cell 2 rfl, (X2.out.below hD6).cell 3 rfl⟩)
   | fail)
 have hq5 : Below w3.heap.size w3 w5 := (((Below.refl w3.heap.size w3).drew).trans (hb4.mono (by simp))).trans (hb5.mono (Nat.le_trans (by simp) hb4.size))
 have hall6 : Below w3.heap.size w3 w6 := hq5.trans (hb6.mono hq5.size)
 have hsw6 : w3.heap.size ≤ w5.heap.size := hq5.size
 have HIS := Lib.hid hisS
 have HOS0 := Lib.hid hoS0
 have D6 := Lib.hid (D3.out.trans (hall6.mono D3.out.size))
 clear hisS hoS0 HSPEC hall6 hb4 hb5 hb6 hc4 hc5 hDd hD4 hD5 hD6 hq5 G0 G1 G2 G3 G4
 have HWS1 : Hid (W1.heap.size ≤ w6.heap.size) := D6.out.size
 have HSS : Hid (w6.heap.size ≤ w6.heap.size) := ((Below.refl w6.heap.size w6)).size
 obtain ⟨x0, x1, x2, x3⟩ := blk4 (X1.out.below D6.out)
 go_wp2_with fail
 refine Calls.mono (HT1.out _ D6.out) ?_
 rintro e w7 ⟨p11, p12, rfl, hb7, hc7⟩
 have CP1 := Lib.hid hc7
 have HBS1 : Hid (w6.heap.size ≤ w6.heap.size) := ((Below.refl w6.heap.size w6)).size
 have D7 := Lib.hid (D6.out.trans (hb7.mono D6.out.size))
 have E7 := Lib.hid hb7
 clear x0 x1 x2 x3 hb7 hc7
 obtain ⟨w8, hw8⟩ : ∃ w8, w8 = w7.alloc (.cells #[.int .i64 t1.states, .int .i64 t1.initial, .slice (some ⟨p11, 0, none⟩) t1.labels.length t1.labels.length, .slice (some ⟨p12, 0, none⟩) t1.edges.length t1.edges.length] 29) := ⟨_, rfl⟩
 have hb8 : Below w7.heap.size w7 w8 := by rw [hw8]; exact boxNew _ _ _
 obtain ⟨kx1, hkx1⟩ : ∃ kx1, kx1 = w7.heap.size := ⟨_, rfl⟩
 have XC1 : Hid (Blk w8 kx1 [.int .i64 t1.states, .int .i64 t1.initial, .slice (some ⟨p11, 0, none⟩) t1.labels.length t1.labels.length, .slice (some ⟨p12, 0, none⟩) t1.edges.length t1.edges.length] 29) := by unfold Hid; rw [hw8, hkx1]; exact Blk.new _ _ _
 have CQ1 := Lib.hid (CP1.out.below hb8)
 have HKX1 := Lib.hid hkx1
 have HW8 := Lib.hid hw8
 have hb61 : p12 < kx1 := by rw [hkx1]; exact CP1.out.h3
 have HB61 := Lib.hid hb61
 have HZX1 : Hid (w8.heap.size = kx1 + 1) := by unfold Hid; rw [hw8, hkx1]; simp
 have HBX1 : Hid (w6.heap.size ≤ kx1) := by unfold Hid; rw [hkx1]; exact (show w6.heap.size ≤ w7.heap.size from (by have := CP1.out.h1; have := CP1.out.h2; have := CP1.out.h3; omega))
 have D8 := Lib.hid (D7.out.trans (hb8.mono D7.out.size))
 have E8 := Lib.hid (E7.out.trans (hb8.mono E7.out.size))
 clear hb8 hw8 hkx1 hb61
 obtain ⟨x0, x1, x2, x3⟩ := blk4 (X2.out.below D8.out)
 rw [HW8.out] at x0 x1 x2 x3
 go_wp2_with fail
 rw [← HW8.out]
 refine Calls.mono (HT2.out _ D8.out) ?_
 rintro e w9 ⟨p21, p22, rfl, hb9, hc9⟩
 have CP2 := Lib.hid hc9
 have HBS2 : Hid (w6.heap.size ≤ w8.heap.size) := (E8.out).size
 have D9 := Lib.hid (D8.out.trans (hb9.mono D8.out.size))
 have E9 := Lib.hid (E8.out.trans (hb9.mono E8.out.size))
 have P19 := Lib.hid hb9
 clear x0 x1 x2 x3 hb9 hc9
 obtain ⟨w10, hw10⟩ : ∃ w10, w10 = w9.alloc (.cells #[.int .i64 t2.states, .int .i64 t2.initial, .slice (some ⟨p21, 0, none⟩) t2.labels.length t2.labels.length, .slice (some ⟨p22, 0, none⟩) t2.edges.length t2.edges.length] 29) := ⟨_, rfl⟩
 have hb10 : Below w9.heap.size w9 w10 := by rw [hw10]; exact boxNew _ _ _
 obtain ⟨kx2, hkx2⟩ : ∃ kx2, kx2 = w9.heap.size := ⟨_, rfl⟩
 have XC2 : Hid (Blk w10 kx2 [.int .i64 t2.states, .int .i64 t2.initial, .slice (some ⟨p21, 0, none⟩) t2.labels.length t2.labels.length, .slice (some ⟨p22, 0, none⟩) t2.edges.length t2.edges.length] 29) := by unfold Hid; rw [hw10, hkx2]; exact Blk.new _ _ _
 have CQ2 := Lib.hid (CP2.out.below hb10)
 have HKX2 := Lib.hid hkx2
 have HW10 := Lib.hid hw10
 have hb62 : p22 < kx2 := by rw [hkx2]; exact CP2.out.h3
 have HB62 := Lib.hid hb62
 have HZX2 : Hid (w10.heap.size = kx2 + 1) := by unfold Hid; rw [hw10, hkx2]; simp
 have HBX2 : Hid (w8.heap.size ≤ kx2) := by unfold Hid; rw [hkx2]; exact (show w8.heap.size ≤ w9.heap.size from (by have := CP2.out.h1; have := CP2.out.h2; have := CP2.out.h3; omega))
 have D10 := Lib.hid (D9.out.trans (hb10.mono D9.out.size))
 have E10 := Lib.hid (E9.out.trans (hb10.mono E9.out.size))
 have P110 := Lib.hid (P19.out.trans (hb10.mono P19.out.size))
 clear hb10 hw10 hkx2 hb62
 have HWI1 : Hid (kx1 + 1 ≤ w10.heap.size) := by have := (P110.out).size; have := HZX1.out; unfold Hid; omega
 have HWI2 : Hid (kx2 + 1 ≤ w10.heap.size) := by have := ((Below.refl w10.heap.size w10)).size; have := HZX2.out; unfold Hid; omega
 have HWIS : Hid (w6.heap.size ≤ w10.heap.size) := (E10.out).size
 obtain ⟨x0, x1, x2, x3⟩ := blk4 (XC1.out.below P110.out)
 rw [HW10.out] at x0 x1 x2 x3
 obtain ⟨y0, y1, y2, y3⟩ := blk4 (XC2.out.below (Below.refl w10.heap.size w10))
 have hlt1 := (XC1.out.below P110.out).lt
 have hlt2 := (XC2.out.below (Below.refl w10.heap.size w10)).lt
 have HGO := Lib.hid (HIMPL.out _ _ _ _ _ (CQ1.out.below P110.out).labels (CQ1.out.below P110.out).edges (CQ2.out.below (Below.refl w10.heap.size w10)).labels (CQ2.out.below (Below.refl w10.heap.size w10)).edges (HG.out.below D10.out))
 rw [← HKX1.out]
 go_wp2_with fail
 rw [← HW10.out, ← HKX2.out]
 refine Calls.mono HGO.out ?_
 rintro e w11 ⟨hb11, xssg, codeg, vG, vsG, rfl, hisG, hoG0⟩
 obtain ⟨hq0, hq1⟩ := HIS.out.unique hisG
 subst hq0 hq1
 have HOG0 := Lib.hid hoG0
 have D11 := Lib.hid (D10.out.trans (hb11.mono D10.out.size))
 have E11 := Lib.hid (E10.out.trans (hb11.mono E10.out.size))
 have P111 := Lib.hid (P110.out.trans (hb11.mono P110.out.size))
 have P211 := Lib.hid hb11
 have I11 := Lib.hid hb11
 clear hisG hb11 HGO hoG0 x0 x1 x2 x3 y0 y1 y2 y3 hlt1 hlt2
 go_wp2_with fail
 refine (eqInt64SS_same _ _ _ _ xss _ ((HOG0.out.below (Below.refl w11.heap.size w11)).at) ((HOS0.out.below E11.out).at)).mono ?_
 rintro e w12 ⟨rfl, hb12⟩
 have D12 := Lib.hid (D11.out.trans (hb12.mono D11.out.size))
 have E12 := Lib.hid (E11.out.trans (hb12.mono E11.out.size))
 have P112 := Lib.hid (P111.out.trans (hb12.mono P111.out.size))
 have P212 := Lib.hid (P211.out.trans (hb12.mono P211.out.size))
 have I12 := Lib.hid (I11.out.trans (hb12.mono I11.out.size))
 have G12 := Lib.hid hb12
 clear hb12
 go_wp2_with fail
 have hDd : Below W1.heap.size W1 w12.drew := D12.out.drew
 have hPd := (P112.out).drew
 have G0 : Hid (w12.cell? ⟨kx1, 0, none⟩ = some (.int .i64 t1.states) ∧ w12.cell? ⟨kx1, 1, none⟩ = some (.int .i64 t1.initial) ∧ w12.cell? ⟨kx1, 2, none⟩ = some (.slice (some ⟨p11, 0, none⟩) t1.labels.length t1.labels.length) ∧ w12.cell? ⟨kx1, 3, none⟩ = some (.slice (some ⟨p12, 0, none⟩) t1.edges.length t1.edges.length) ∧ w12.cell? ⟨n0, 0, none⟩ = some (.int .i64 t1.states) ∧ w12.cell? ⟨n0, 1, none⟩ = some (.int .i64 t1.initial) ∧ w12.cell? ⟨n0, 2, none⟩ = some (l1) ∧ w12.cell? ⟨n0, 3, none⟩ = some (e1)) := ⟨(XC1.out.below P112.out).cell 0 rfl, (XC1.out.below P112.out).cell 1 rfl, (XC1.out.below P112.out).cell 2 rfl, (XC1.out.below P112.out).cell 3 rfl, (X1.out.below D12.out).cell 0 rfl, (X1.out.below D12.out).cell 1 rfl, (X1.out.below D12.out).cell 2 rfl, (X1.out.below D12.out).cell 3 rfl⟩
 have G1 : Hid (w12.drew.cell? ⟨kx1, 0, none⟩ = some (.int .i64 t1.states) ∧ w12.drew.cell? ⟨kx1, 1, none⟩ = some (.int .i64 t1.initial) ∧ w12.drew.cell? ⟨kx1, 2, none⟩ = some (.slice (some ⟨p11, 0, none⟩) t1.labels.length t1.labels.length) ∧ w12.drew.cell? ⟨kx1, 3, none⟩ = some (.slice (some ⟨p12, 0, none⟩) t1.edges.length t1.edges.length) ∧ w12.drew.cell? ⟨n0, 0, none⟩ = some (.int .i64 t1.states) ∧ w12.drew.cell? ⟨n0, 1, none⟩ = some (.int .i64 t1.initial) ∧ w12.drew.cell? ⟨n0, 2, none⟩ = some (l1) ∧ w12.drew.cell? ⟨n0, 3, none⟩ = some (e1)) := ⟨(XC1.out.below hPd).cell 0 rfl, (XC1.out.below hPd).cell 1 rfl, (XC1.out.below hPd).cell 2 rfl, (XC1.out.below hPd).cell 3 rfl, (X1.out.below hDd).cell 0 rfl, (X1.out.below hDd).cell 1 rfl, (X1.out.below hDd).cell 2 rfl, (X1.out.below hDd).cell 3 rfl⟩
 go_region_held3 (fun w' => w'.cell? ⟨kx1, 0, none⟩ = some (.int .i64 t1.states) ∧ w'.cell? ⟨kx1, 1, none⟩ = some (.int .i64 t1.initial) ∧ w'.cell? ⟨kx1, 2, none⟩ = some (.slice (some ⟨p11, 0, none⟩) t1.labels.length t1.labels.length) ∧ w'.cell? ⟨kx1, 3, none⟩ = some (.slice (some ⟨p12, 0, none⟩) t1.edges.length t1.edges.length) ∧ w'.cell? ⟨n0, 0, none⟩ = some (.int .i64 t1.states) ∧ w'.cell? ⟨n0, 1, none⟩ = some (.int .i64 t1.initial) ∧ w'.cell? ⟨n0, 2, none⟩ = some (l1) ∧ w'.cell? ⟨n0, 3, none⟩ = some (e1))
  (first | exact G0.out | exact G1.out | exact G2.out | exact G3.out | go_keep)
  (first
   | (go_at_call 7; refine Calls.mono (HT1.out _ hDd) ?_; rintro e w13 ⟨b131, b132, rfl, hb13, hc13⟩; have hD2 := hDd.trans (hb13.mono hDd.size); have hP2 := hPd.trans (hb13.mono hPd.size); have G2 : Hid (w13.cell? ⟨kx1, 0, none⟩ = some (.int .i64 t1.states) ∧ w13.cell? ⟨kx1, 1, none⟩ = some (.int .i64 t1.initial) ∧ w13.cell? ⟨kx1, 2, none⟩ = some (.slice (some ⟨p11, 0, none⟩) t1.labels.length t1.labels.length) ∧ w13.cell? ⟨kx1, 3, none⟩ = some (.slice (some ⟨p12, 0, none⟩) t1.edges.length t1.edges.length) ∧ w13.cell? ⟨n0, 0, none⟩ = some (.int .i64 t1.states) ∧ w13.cell? ⟨n0, 1, none⟩ = some (.int .i64 t1.initial) ∧ w13.cell? ⟨n0, 2, none⟩ = some (l1) ∧ w13.cell? ⟨n0, 3, none⟩ = some (e1)) := ⟨(XC1.out.below hP2).cell 0 rfl, (XC1.out.below hP2).cell 1 rfl, (XC1.out.below hP2).cell 2 rfl, (XC1.out.below hP2).cell 3 rfl, (X1.out.below hD2).cell 0 rfl, (X1.out.below hD2).cell 1 rfl, (X1.out.below hD2).cell 2 rfl, (X1.out.below hD2).cell 3 rfl⟩)
   | (go_at_call 9; refine (eqLts_same _ _ 0 0 t1 _ (CQ1.out.below hP2).at hc13.at).mono ?_; rintro e w14 ⟨rfl, hb14⟩; have hD3 := hD2.trans (hb14.mono hD2.size); have hP3 := hP2.trans (hb14.mono hP2.size); have G3 : Hid (w14.cell? ⟨kx1, 0, none⟩ = some (.int .i64 t1.states) ∧ w14.cell? ⟨kx1, 1, none⟩ = some (.int .i64 t1.initial) ∧ w14.cell? ⟨kx1, 2, none⟩ = some (.slice (some ⟨p11, 0, none⟩) t1.labels.length t1.labels.length) ∧ w14.cell? ⟨kx1, 3, none⟩ = some (.slice (some ⟨p12, 0, none⟩) t1.edges.length t1.edges.length) ∧ w14.cell? ⟨n0, 0, none⟩ = some (.int .i64 t1.states) ∧ w14.cell? ⟨n0, 1, none⟩ = some (.int .i64 t1.initial) ∧ w14.cell? ⟨n0, 2, none⟩ = some (l1) ∧ w14.cell? ⟨n0, 3, none⟩ = some (e1)) := ⟨(XC1.out.below hP3).cell 0 rfl, (XC1.out.below hP3).cell 1 rfl, (XC1.out.below hP3).cell 2 rfl, (XC1.out.below hP3).cell 3 rfl, (X1.out.below hD3).cell 0 rfl, (X1.out.below hD3).cell 1 rfl, (X1.out.below hD3).cell 2 rfl, (X1.out.below hD3).cell 3 rfl⟩))
 have hall14 : Below w12.heap.size w12 w14 := (((Below.refl w12.heap.size w12).drew).trans (hb13.mono (by simp))).trans (hb14.mono (Nat.le_trans (by simp) hb13.size))
 have D14 := Lib.hid (D12.out.trans (hall14.mono D12.out.size))
 have E14 := Lib.hid (E12.out.trans (hall14.mono E12.out.size))
 have P114 := Lib.hid (P112.out.trans (hall14.mono P112.out.size))
 have P214 := Lib.hid (P212.out.trans (hall14.mono P212.out.size))
 have I14 := Lib.hid (I12.out.trans (hall14.mono I12.out.size))
 have G14 := Lib.hid (G12.out.trans (hall14.mono G12.out.size))
 clear hDd hPd hD2 hP2 hD3 hP3 G0 G1 G2 G3 hall14 hb13 hc13 hb14
 go_wp2_with fail
 have hDd : Below W1.heap.size W1 w14.drew := D14.out.drew
 have hPd := (P214.out).drew
 have G0 : Hid (w14.cell? ⟨kx2, 0, none⟩ = some (.int .i64 t2.states) ∧ w14.cell? ⟨kx2, 1, none⟩ = some (.int .i64 t2.initial) ∧ w14.cell? ⟨kx2, 2, none⟩ = some (.slice (some ⟨p21, 0, none⟩) t2.labels.length t2.labels.length) ∧ w14.cell? ⟨kx2, 3, none⟩ = some (.slice (some ⟨p22, 0, none⟩) t2.edges.length t2.edges.length) ∧ w14.cell? ⟨n0 + 1, 0, none⟩ = some (.int .i64 t2.states) ∧ w14.cell? ⟨n0 + 1, 1, none⟩ = some (.int .i64 t2.initial) ∧ w14.cell? ⟨n0 + 1, 2, none⟩ = some (l2) ∧ w14.cell? ⟨n0 + 1, 3, none⟩ = some (e2)) := ⟨(XC2.out.below P214.out).cell 0 rfl, (XC2.out.below P214.out).cell 1 rfl, (XC2.out.below P214.out).cell 2 rfl, (XC2.out.below P214.out).cell 3 rfl, (X2.out.below D14.out).cell 0 rfl, (X2.out.below D14.out).cell 1 rfl, (X2.out.below D14.out).cell 2 rfl, (X2.out.below D14.out).cell 3 rfl⟩
 have G1 : Hid (w14.drew.cell? ⟨kx2, 0, none⟩ = some (.int .i64 t2.states) ∧ w14.drew.cell? ⟨kx2, 1, none⟩ = some (.int .i64 t2.initial) ∧ w14.drew.cell? ⟨kx2, 2, none⟩ = some (.slice (some ⟨p21, 0, none⟩) t2.labels.length t2.labels.length) ∧ w14.drew.cell? ⟨kx2, 3, none⟩ = some (.slice (some ⟨p22, 0, none⟩) t2.edges.length t2.edges.length) ∧ w14.drew.cell? ⟨n0 + 1, 0, none⟩ = some (.int .i64 t2.states) ∧ w14.drew.cell? ⟨n0 + 1, 1, none⟩ = some (.int .i64 t2.initial) ∧ w14.drew.cell? ⟨n0 + 1, 2, none⟩ = some (l2) ∧ w14.drew.cell? ⟨n0 + 1, 3, none⟩ = some (e2)) := ⟨(XC2.out.below hPd).cell 0 rfl, (XC2.out.below hPd).cell 1 rfl, (XC2.out.below hPd).cell 2 rfl, (XC2.out.below hPd).cell 3 rfl, (X2.out.below hDd).cell 0 rfl, (X2.out.below hDd).cell 1 rfl, (X2.out.below hDd).cell 2 rfl, (X2.out.below hDd).cell 3 rfl⟩
 go_region_held3 (fun w' => w'.cell? ⟨kx2, 0, none⟩ = some (.int .i64 t2.states) ∧ w'.cell? ⟨kx2, 1, none⟩ = some (.int .i64 t2.initial) ∧ w'.cell? ⟨kx2, 2, none⟩ = some (.slice (some ⟨p21, 0, none⟩) t2.labels.length t2.labels.length) ∧ w'.cell? ⟨kx2, 3, none⟩ = some (.slice (some ⟨p22, 0, none⟩) t2.edges.length t2.edges.length) ∧ w'.cell? ⟨n0 + 1, 0, none⟩ = some (.int .i64 t2.states) ∧ w'.cell? ⟨n0 + 1, 1, none⟩ = some (.int .i64 t2.initial) ∧ w'.cell? ⟨n0 + 1, 2, none⟩ = some (l2) ∧ w'.cell? ⟨n0 + 1, 3, none⟩ = some (e2))
  (first | exact G0.out | exact G1.out | exact G2.out | exact G3.out | go_keep)
  (first
   | (go_at_call 7; refine Calls.mono (HT2.out _ hDd) ?_; rintro e w15 ⟨b151, b152, rfl, hb15, hc15⟩; have hD2 := hDd.trans (hb15.mono hDd.size); have hP2 := hPd.trans (hb15.mono hPd.size); have G2 : Hid (w15.cell? ⟨kx2, 0, none⟩ = some (.int .i64 t2.states) ∧ w15.cell? ⟨kx2, 1, none⟩ = some (.int .i64 t2.initial) ∧ w15.cell? ⟨kx2, 2, none⟩ = some (.slice (some ⟨p21, 0, none⟩) t2.labels.length t2.labels.length) ∧ w15.cell? ⟨kx2, 3, none⟩ = some (.slice (some ⟨p22, 0, none⟩) t2.edges.length t2.edges.length) ∧ w15.cell? ⟨n0 + 1, 0, none⟩ = some (.int .i64 t2.states) ∧ w15.cell? ⟨n0 + 1, 1, none⟩ = some (.int .i64 t2.initial) ∧ w15.cell? ⟨n0 + 1, 2, none⟩ = some (l2) ∧ w15.cell? ⟨n0 + 1, 3, none⟩ = some (e2)) := ⟨(XC2.out.below hP2).cell 0 rfl, (XC2.out.below hP2).cell 1 rfl, (XC2.out.below hP2).cell 2 rfl, (XC2.out.below hP2).cell 3 rfl, (X2.out.below hD2).cell 0 rfl, (X2.out.below hD2).cell 1 rfl, (X2.out.below hD2).cell 2 rfl, (X2.out.below hD2).cell 3 rfl⟩)
   | (go_at_call 9; refine (eqLts_same _ _ 0 0 t2 _ (CQ2.out.below hP2).at hc15.at).mono ?_; rintro e w16 ⟨rfl, hb16⟩; have hD3 := hD2.trans (hb16.mono hD2.size); have hP3 := hP2.trans (hb16.mono hP2.size); have G3 : Hid (w16.cell? ⟨kx2, 0, none⟩ = some (.int .i64 t2.states) ∧ w16.cell? ⟨kx2, 1, none⟩ = some (.int .i64 t2.initial) ∧ w16.cell? ⟨kx2, 2, none⟩ = some (.slice (some ⟨p21, 0, none⟩) t2.labels.length t2.labels.length) ∧ w16.cell? ⟨kx2, 3, none⟩ = some (.slice (some ⟨p22, 0, none⟩) t2.edges.length t2.edges.length) ∧ w16.cell? ⟨n0 + 1, 0, none⟩ = some (.int .i64 t2.states) ∧ w16.cell? ⟨n0 + 1, 1, none⟩ = some (.int .i64 t2.initial) ∧ w16.cell? ⟨n0 + 1, 2, none⟩ = some (l2) ∧ w16.cell? ⟨n0 + 1, 3, none⟩ = some (e2)) := ⟨(XC2.out.below hP3).cell 0 rfl, (XC2.out.below hP3).cell 1 rfl, (XC2.out.below hP3).cell 2 rfl, (XC2.out.below hP3).cell 3 rfl, (X2.out.below hD3).cell 0 rfl, (X2.out.below hD3).cell 1 rfl, (X2.out.below hD3).cell 2 rfl, (X2.out.below hD3).cell 3 rfl⟩))
 have hall16 : Below w14.heap.size w14 w16 := (((Below.refl w14.heap.size w14).drew).trans (hb15.mono (by simp))).trans (hb16.mono (Nat.le_trans (by simp) hb15.size))
 have D16 := Lib.hid (D14.out.trans (hall16.mono D14.out.size))
 have E16 := Lib.hid (E14.out.trans (hall16.mono E14.out.size))
 have P116 := Lib.hid (P114.out.trans (hall16.mono P114.out.size))
 have P216 := Lib.hid (P214.out.trans (hall16.mono P214.out.size))
 have I16 := Lib.hid (I14.out.trans (hall16.mono I14.out.size))
 have G16 := Lib.hid (G14.out.trans (hall16.mono G14.out.size))
 clear hDd hPd hD2 hP2 hD3 hP3 G0 G1 G2 G3 hall16 hb15 hc15 hb16
 have HWIc : Hid (w10.heap.size ≤ w16.heap.size) := (I16.out).size
 have hcq := CQ1.out.below P116.out
 have hln := HLN1.out
 have hb6 := HB61.out
 have hbx := HBX1.out
 have hkl := (XC1.out.below P116.out).lt
 obtain ⟨N1, hN1⟩ : ∃ N : Int, N = 1 + (t1.labels.length : Int) + 3 * (t1.edges.length : Int) := ⟨_, rfl⟩
 have hNz1 : 0 ≤ N1 := by omega
 have hNb1 : N1 ≤ 5000000 := by omega
 have HM := Lib.hid (markLts_any w6.heap.size kx1 p11 p12 t1.labels.length t1.edges.length t1.states t1.initial _ _ 1 w16 (by decide) (by omega) hcq.h1 (by have := hcq.h2; omega) (by have := hcq.h1; have := hcq.h2; omega) hb6 (by omega) (by have := hcq.h2; omega) hcq.o1 (own_lower hcq.o2 (by have := hcq.h1; have := hcq.h2; omega)))
 rw [← hN1] at HM
 have HN1 := Lib.hid hN1
 have hlow := hcq.h1
 have HLW : Hid (w6.heap.size ≤ w16.heap.size) := by unfold Hid; omega
 obtain ⟨x0, x1, x2, x3⟩ := blk4 (XC1.out.below P116.out)
 clear hcq hln hb6 hbx hlow hN1
 go_wp2_with fail
 refine Calls.mono HM.out ?_
 rintro e w17 ⟨rfl, ht17⟩
 have hb17 : Below w6.heap.size w16 w17 := below_turns ht17 HLW.out
 have D17 := Lib.hid (D16.out.trans (hb17.mono (show W1.heap.size ≤ w6.heap.size from by have := HWS1.out; have := HBS1.out; omega)))
 have E17 := Lib.hid ((E16.out).trans (hb17.mono (show w6.heap.size ≤ w6.heap.size from by have := HBS1.out; have := HSS.out; omega)))
 have XC2' : Hid (Blk w17 kx2 _ 29) := (XC2.out.below P216.out).turns ht17 (.inr (by have := HBX2.out; have := HZX1.out; have := HBS2.out; omega))
 have CQ2' := Lib.hid ((CQ2.out.below P216.out).turns ht17 (by have := HZX1.out; have := HBS2.out; omega))
 clear XC2 CQ2
 have XC2 := XC2'
 clear XC2'
 have CQ2 := CQ2'
 clear CQ2'
 have HOGx0 := Lib.hid ((HOG0.out.below G16.out).turns ht17 (show kx1 ≤ w10.heap.size from by have := HZX1.out; have := HWI1.out; omega))
 clear HOG0
 have HOG0 := HOGx0
 clear HOGx0
 have HWM17 : Hid (w10.heap.size ≤ w17.heap.size) := by have := HWIc.out; have := ht17.size; unfold Hid; omega
 clear HWIc
 have HWIc := HWM17
 clear HWM17
 clear x0 x1 x2 x3 hkl HM HLW hb17 ht17
 have hcq := CQ2.out.below (Below.refl w17.heap.size w17)
 have hln := HLN2.out
 have hb6 := HB62.out
 have hbx := HBX2.out
 have hkl := (XC2.out.below (Below.refl w17.heap.size w17)).lt
 obtain ⟨N2, hN2⟩ : ∃ N : Int, N = N1 + (t2.labels.length : Int) + 3 * (t2.edges.length : Int) := ⟨_, rfl⟩
 have hNz2 : 0 ≤ N2 := by omega
 have hNb2 : N2 ≤ 10000000 := by omega
 have HM := Lib.hid (markLts_any w8.heap.size kx2 p21 p22 t2.labels.length t2.edges.length t2.states t2.initial _ _ N1 w17 hNz1 (by omega) hcq.h1 (by have := hcq.h2; omega) (by have := hcq.h1; have := hcq.h2; omega) hb6 (by omega) (by have := hcq.h2; omega) hcq.o1 (own_lower hcq.o2 (by have := hcq.h1; have := hcq.h2; omega)))
 rw [← hN2] at HM
 have HN2 := Lib.hid hN2
 have hlow := hcq.h1
 have HLW : Hid (w8.heap.size ≤ w17.heap.size) := by unfold Hid; omega
 obtain ⟨x0, x1, x2, x3⟩ := blk4 (XC2.out.below (Below.refl w17.heap.size w17))
 clear hcq hln hb6 hbx hlow hN2
 go_wp2_with fail
 refine Calls.mono HM.out ?_
 rintro e w18 ⟨rfl, ht18⟩
 have hb18 : Below w8.heap.size w17 w18 := below_turns ht18 HLW.out
 have D18 := Lib.hid (D17.out.trans (hb18.mono (show W1.heap.size ≤ w8.heap.size from by have := HWS1.out; have := HBS2.out; omega)))
 have E18 := Lib.hid ((E17.out).trans (hb18.mono (show w6.heap.size ≤ w8.heap.size from by have := HBS2.out; have := HSS.out; omega)))
 have HOGx0 := Lib.hid ((HOG0.out.below (Below.refl w17.heap.size w17)).turns ht18 (show kx2 ≤ w10.heap.size from by have := HZX2.out; have := HWI2.out; omega))
 clear HOG0
 have HOG0 := HOGx0
 clear HOGx0
 have HWM18 : Hid (w10.heap.size ≤ w18.heap.size) := by have := HWIc.out; have := ht18.size; unfold Hid; omega
 clear HWIc
 have HWIc := HWM18
 clear HWM18
 clear x0 x1 x2 x3 hkl HM HLW hb18 ht18
 go_wp2_with fail
 refine (eqInt64SS_same _ _ _ _ xss _ ((HOG0.out.below (Below.refl w18.heap.size w18)).at) ((HOS0.out.below E18.out).at)).mono ?_
 rintro e w19 ⟨rfl, hb19⟩
 have D19 := Lib.hid (D18.out.trans (hb19.mono D18.out.size))
 have E19 := Lib.hid (E18.out.trans (hb19.mono E18.out.size))
 have G19 := Lib.hid hb19
 clear hb19
 have hwI : w10.heap.size ≤ w19.heap.size := by have := HWIc.out; have := (G19.out).size; omega
 have hfew := HIS.out.few
 obtain ⟨Z0, hZ0⟩ : ∃ Z : Int, Z = 1 + (total xss : Int) := ⟨_, rfl⟩
 have hZz0 : 0 ≤ Z0 ∧ Z0 ≤ 10000000 := by omega
 have HMK := Lib.hid (markInt64SS_is w10.heap.size _ _ xss 1 _ (by decide) (by omega) hwI (HOG0.out.below G19.out))
 rw [← hZ0] at HMK
 have HZZ0 := Lib.hid hZ0
 clear hZ0
 go_wp2_with fail
 refine Calls.mono HMK.out ?_
 rintro e w20 ⟨rfl, hb20, hom, hon⟩
 have HOM := Lib.hid hom
 have HON := Lib.hid hon
 have D20 := Lib.hid (D19.out.trans (hb20.mono (show W1.heap.size ≤ w10.heap.size from by have := HWS1.out; have := HWIS.out; omega)))
 have E20 := Lib.hid ((E19.out).trans (hb20.mono (show w6.heap.size ≤ w10.heap.size from by have := HWIS.out; have := HSS.out; omega)))
 clear HOG0
 have HOG0 := HOM
 clear HOM
 have hwI' : w10.heap.size ≤ w20.heap.size := Nat.le_trans hwI hb20.size
 clear hwI hb20 hom hon HON HMK
 have hwI := hwI'
 clear hwI'
 have HHE := Lib.hid (heldInt64SS_same _ _ xss 1 _ (by decide) (by have := HZZ0.out; have := hZz0; omega) (HOG0.out.below (Below.refl w20.heap.size w20)).at)
 rw [← HZZ0.out] at HHE
 go_wp2_with fail
 refine Calls.mono HHE.out ?_
 rintro e w21 ⟨rfl, rfl⟩
 have hb21 := Below.refl w20.heap.size w20
 clear hb21 HHE
 go_wp2_with fail
 have hDd : Below W1.heap.size W1 w20.drew := D20.out.drew
 have G0 : Hid (w20.cell? ⟨n0, 0, none⟩ = some (.int .i64 t1.states) ∧ w20.cell? ⟨n0, 1, none⟩ = some (.int .i64 t1.initial) ∧ w20.cell? ⟨n0, 2, none⟩ = some (l1) ∧ w20.cell? ⟨n0, 3, none⟩ = some (e1) ∧ w20.cell? ⟨n0 + 1, 0, none⟩ = some (.int .i64 t2.states) ∧ w20.cell? ⟨n0 + 1, 1, none⟩ = some (.int .i64 t2.initial) ∧ w20.cell? ⟨n0 + 1, 2, none⟩ = some (l2) ∧ w20.cell? ⟨n0 + 1, 3, none⟩ = some (e2)) := ⟨(X1.out.below D20.out).cell 0 rfl, (X1.out.below D20.out).cell 1 rfl, (X1.out.below D20.out).cell 2 rfl, (X1.out.below D20.out).cell 3 rfl, (X2.out.below D20.out).cell 0 rfl, (X2.out.below D20.out).cell 1 rfl, (X2.out.below D20.out).cell 2 rfl, (X2.out.below D20.out).cell 3 rfl⟩
 have G1 : Hid (w20.drew.cell? ⟨n0, 0, none⟩ = some (.int .i64 t1.states) ∧ w20.drew.cell? ⟨n0, 1, none⟩ = some (.int .i64 t1.initial) ∧ w20.drew.cell? ⟨n0, 2, none⟩ = some (l1) ∧ w20.drew.cell? ⟨n0, 3, none⟩ = some (e1) ∧ w20.drew.cell? ⟨n0 + 1, 0, none⟩ = some (.int .i64 t2.states) ∧ w20.drew.cell? ⟨n0 + 1, 1, none⟩ = some (.int .i64 t2.initial) ∧ w20.drew.cell? ⟨n0 + 1, 2, none⟩ = some (l2) ∧ w20.drew.cell? ⟨n0 + 1, 3, none⟩ = some (e2)) := ⟨(X1.out.below hDd).cell 0 rfl, (X1.out.below hDd).cell 1 rfl, (X1.out.below hDd).cell 2 rfl, (X1.out.below hDd).cell 3 rfl, (X2.out.below hDd).cell 0 rfl, (X2.out.below hDd).cell 1 rfl, (X2.out.below hDd).cell 2 rfl, (X2.out.below hDd).cell 3 rfl⟩
 go_region_held3 (fun w' => w'.cell? ⟨n0, 0, none⟩ = some (.int .i64 t1.states) ∧ w'.cell? ⟨n0, 1, none⟩ = some (.int .i64 t1.initial) ∧ w'.cell? ⟨n0, 2, none⟩ = some (l1) ∧ w'.cell? ⟨n0, 3, none⟩ = some (e1) ∧ w'.cell? ⟨n0 + 1, 0, none⟩ = some (.int .i64 t2.states) ∧ w'.cell? ⟨n0 + 1, 1, none⟩ = some (.int .i64 t2.initial) ∧ w'.cell? ⟨n0 + 1, 2, none⟩ = some (l2) ∧ w'.cell? ⟨n0 + 1, 3, none⟩ = some (e2))
  (first | exact G0.out | exact G1.out | exact G2.out | exact G3.out | exact G4.out | go_keep)
  (first
   | (go_at_call_of 7 (Value.agg #[Value.int .i64 t1.states, Value.int .i64 t1.initial, l1, e1]); refine Calls.mono (HT1.out _ hDd) ?_; rintro e w22 ⟨b221, b222, rfl, hb22, hc22⟩; have hD22 := hDd.trans (hb22.mono hDd.size); have G2 : Hid (w22.cell? ⟨n0, 0, none⟩ = some (.int .i64 t1.states) ∧ w22.cell? ⟨n0, 1, none⟩ = some (.int .i64 t1.initial) ∧ w22.cell? ⟨n0, 2, none⟩ = some (l1) ∧ w22.cell? ⟨n0, 3, none⟩ = some (e1) ∧ w22.cell? ⟨n0 + 1, 0, none⟩ = some (.int .i64 t2.states) ∧ w22.cell? ⟨n0 + 1, 1, none⟩ = some (.int .i64 t2.initial) ∧ w22.cell? ⟨n0 + 1, 2, none⟩ = some (l2) ∧ w22.cell? ⟨n0 + 1, 3, none⟩ = some (e2)) := ⟨(X1.out.below hD22).cell 0 rfl, (X1.out.below hD22).cell 1 rfl, (X1.out.below hD22).cell 2 rfl, (X1.out.below hD22).cell 3 rfl, (X2.out.below hD22).cell 0 rfl, (X2.out.below hD22).cell 1 rfl, (X2.out.below hD22).cell 2 rfl, (X2.out.below hD22).cell 3 rfl⟩)
   | (go_at_call_of 7 (Value.agg #[Value.int .i64 t2.states, Value.int .i64 t2.initial, l2, e2]); refine Calls.mono (HT2.out _ hD22) ?_; rintro e w23 ⟨b231, b232, rfl, hb23, hc23⟩; have hD23 := hD22.trans (hb23.mono hD22.size); have G3 : Hid (w23.cell? ⟨n0, 0, none⟩ = some (.int .i64 t1.states) ∧ w23.cell? ⟨n0, 1, none⟩ = some (.int .i64 t1.initial) ∧ w23.cell? ⟨n0, 2, none⟩ = some (l1) ∧ w23.cell? ⟨n0, 3, none⟩ = some (e1) ∧ w23.cell? ⟨n0 + 1, 0, none⟩ = some (.int .i64 t2.states) ∧ w23.cell? ⟨n0 + 1, 1, none⟩ = some (.int .i64 t2.initial) ∧ w23.cell? ⟨n0 + 1, 2, none⟩ = some (l2) ∧ w23.cell? ⟨n0 + 1, 3, none⟩ = some (e2)) := ⟨(X1.out.below hD23).cell 0 rfl, (X1.out.below hD23).cell 1 rfl, (X1.out.below hD23).cell 2 rfl, (X1.out.below hD23).cell 3 rfl, (X2.out.below hD23).cell 0 rfl, (X2.out.below hD23).cell 1 rfl, (X2.out.below hD23).cell 2 rfl, (X2.out.below hD23).cell 3 rfl⟩)
   | (go_at_call 13; refine Calls.mono (HIMPL.out _ _ _ _ _ (hc22.below hb23).labels (hc22.below hb23).edges hc23.labels hc23.edges (HG.out.below hD23)) ?_; rintro e w24 ⟨hb24, xssh, codeh, vH, vsH, rfl, hisH, hoH0⟩; have hD24 := hD23.trans (hb24.mono hD23.size); have G4 : Hid (w24.cell? ⟨n0, 0, none⟩ = some (.int .i64 t1.states) ∧ w24.cell? ⟨n0, 1, none⟩ = some (.int .i64 t1.initial) ∧ w24.cell? ⟨n0, 2, none⟩ = some (l1) ∧ w24.cell? ⟨n0, 3, none⟩ = some (e1) ∧ w24.cell? ⟨n0 + 1, 0, none⟩ = some (.int .i64 t2.states) ∧ w24.cell? ⟨n0 + 1, 1, none⟩ = some (.int .i64 t2.initial) ∧ w24.cell? ⟨n0 + 1, 2, none⟩ = some (l2) ∧ w24.cell? ⟨n0 + 1, 3, none⟩ = some (e2)) := ⟨(X1.out.below hD24).cell 0 rfl, (X1.out.below hD24).cell 1 rfl, (X1.out.below hD24).cell 2 rfl, (X1.out.below hD24).cell 3 rfl, (X2.out.below hD24).cell 0 rfl, (X2.out.below hD24).cell 1 rfl, (X2.out.below hD24).cell 2 rfl, (X2.out.below hD24).cell 3 rfl⟩)
   | fail)
 have hq23 : Below w20.heap.size w20 w23 := (((Below.refl w20.heap.size w20).drew).trans (hb22.mono (by simp))).trans (hb23.mono (Nat.le_trans (by simp) hb22.size))
 have hall24 : Below w20.heap.size w20 w24 := hq23.trans (hb24.mono hq23.size)
 have hsw24 : w20.heap.size ≤ w23.heap.size := hq23.size
 obtain ⟨hq0, hq1⟩ := HIS.out.unique hisH
 subst hq0 hq1
 have HOH0 := Lib.hid hoH0
 have D24 := Lib.hid (D20.out.trans (hall24.mono D20.out.size))
 have E24 := Lib.hid (E20.out.trans (hall24.mono E20.out.size))
 have G24 := Lib.hid hall24
 clear hisH hoH0 hall24 hb22 hb23 hb24 hc22 hc23 hDd hD22 hD23 hD24 hq23 G0 G1 G2 G3 G4
 go_wp2_with fail
 refine (eqInt64SS_same _ _ _ _ xss _ ((HOH0.out.below (Below.refl w24.heap.size w24)).at) ((HOS0.out.below E24.out).at)).mono ?_
 rintro e w25 ⟨rfl, hb25⟩
 have D25 := Lib.hid (D24.out.trans (hb25.mono D24.out.size))
 have E25 := Lib.hid (E24.out.trans (hb25.mono E24.out.size))
 have G25 := Lib.hid (G24.out.trans (hb25.mono G24.out.size))
 have H25 := Lib.hid hb25
 clear hb25
 have HHE := Lib.hid (heldInt64SS_same _ _ xss 1 _ (by decide) (by have := HZZ0.out; have := hZz0; omega) (HOG0.out.below G25.out).at)
 rw [← HZZ0.out] at HHE
 go_wp2_with fail
 refine Calls.mono HHE.out ?_
 rintro e w26 ⟨rfl, rfl⟩
 have hb26 := Below.refl w25.heap.size w25
 clear hb26 HHE
 go_wp2_with fail
 go_ret
 exact ⟨rfl, HB1.out.trans (D25.out.mono HB1.out.size)⟩

end Go.Proofs.YtbjbjbnbapeajaaGreatDoor
