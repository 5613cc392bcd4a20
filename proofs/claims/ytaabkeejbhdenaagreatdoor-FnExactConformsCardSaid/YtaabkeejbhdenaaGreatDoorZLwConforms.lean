/-
  For all arguments the law FnExactConforms answers true: the walk that joins both sides.
-/
import Derived.Test.YtaabkeejbhdenaaGreatDoorC24
import Derived.Test.YtaabkeejbhdenaaGreatDoorC29
import Derived.Test.YtaabkeejbhdenaaGreatDoorC30
import Derived.Deep.RegionHeld3
namespace Go.Proofs.YtaabkeejbhdenaaGreatDoor
open Go Go.RowKit

set_option maxRecDepth 100000 in
set_option maxHeartbeats 4000000 in
theorem lawConforms (lo : Nat) (t1 : Lts) (l1 e1 : Value) (t2 : Lts) (l2 e2 : Value) (v3 : Value) (ins : List ByteArray) (w : World) (hs1 : SliceK 1 encS lo w l1 t1.labels) (he1 : SliceK 3 encE lo w e1 t1.edges) (hk1 : StrsOk t1.labels) (hs2 : SliceK 1 encS lo w l2 t2.labels) (he2 : SliceK 3 encE lo w e2 t2.edges) (hk2 : StrsOk t2.labels) (hs3 : SliceK 1 encS lo w v3 ins) (hk3 : StrsOk ins) (g : Glob w) :
  Calls Tryz.prog 4 #[.agg #[.int .i64 t1.states, .int .i64 t1.initial, l1, e1], .agg #[.int .i64 t2.states, .int .i64 t2.initial, l2, e2], v3] w fun e w' => e = .returned (.bool true) ∧ Below w.heap.size w w' := by
 obtain ⟨n0, hn0⟩ : ∃ n0, n0 = w.heap.size := ⟨_, rfl⟩
 obtain ⟨W1, hW1⟩ : ∃ W1, W1 = ((w.alloc (.cells #[.int .i64 t1.states, .int .i64 t1.initial, l1, e1] 25)).alloc (.cells #[.int .i64 t2.states, .int .i64 t2.initial, l2, e2] 25)) := ⟨_, rfl⟩
 have hB1 : Below w.heap.size w W1 := by rw [hW1]; exact (((Below.refl _ _).alloc (by simp) _).alloc (by simp) _)
 have hX1 : Blk W1 (n0) [.int .i64 t1.states, .int .i64 t1.initial, l1, e1] 25 := by
  have h := Blk.new w [.int .i64 t1.states, .int .i64 t1.initial, l1, e1] 25
  rw [← hn0] at h
  rw [hW1]
  exact h.alloc _
 have hX2 : Blk W1 (n0 + 1) [.int .i64 t2.states, .int .i64 t2.initial, l2, e2] 25 := by
  have h := Blk.new (w.alloc (.cells #[.int .i64 t1.states, .int .i64 t1.initial, l1, e1] 25)) [.int .i64 t2.states, .int .i64 t2.initial, l2, e2] 25
  rw [World.size_alloc, ← hn0] at h
  rw [hW1]
  exact h
 have HS1 := Lib.hid (hs1.below hB1)
 have HE1 := Lib.hid (he1.below hB1)
 have K1 := Lib.hid hk1
 have X1 := Lib.hid hX1
 have HS2 := Lib.hid (hs2.below hB1)
 have HE2 := Lib.hid (he2.below hB1)
 have K2 := Lib.hid hk2
 have X2 := Lib.hid hX2
 have HS3 := Lib.hid (hs3.below hB1)
 have K3 := Lib.hid hk3
 clear hs3 hk3
 have HG := Lib.hid (g.below hB1)
 have HB1 := Lib.hid hB1
 have HW1 := Lib.hid hW1
 have HN0 := Lib.hid hn0
 clear g hB1 hW1 hn0 hs1 he1 hk1 hX1 hs2 he2 hk2 hX2
 have HC1 := Lib.hid (fun w' (hb : Below W1.heap.size W1 w') => szLts_any (.agg #[.int .i64 t1.states, .int .i64 t1.initial, l1, e1]) lo t1 1048576 w' (by decide) (by decide) K1.out ⟨l1, e1, rfl, HS1.out.below hb, HE1.out.below hb⟩)
 by_cases c1 : szL t1 1048576 < 0
 ·clear HG 
  go_enter Tryz.func4, Tryz.ntmps4
  go_wp2_with fail
  rw [← HW1.out]
  refine Calls.mono (HC1.out _ (Below.refl _ _)) ?_
  rintro e y1 ⟨rfl, hb1⟩
  have D1 := Lib.hid hb1
  clear hb1
  go_wp2_with fail
  go_ret
  exact ⟨rfl, HB1.out.trans (D1.out.mono HB1.out.size)⟩
 have hfit1 := szL_fit (t := t1) (left := 1048576) (by decide) (by omega)
 obtain ⟨M1, hM1⟩ : ∃ M1, M1 = szL t1 1048576 := ⟨_, rfl⟩
 rw [← hM1] at c1 hfit1 HC1
 have HMM1 := Lib.hid hM1
 clear hM1
 have hLz1 : 0 ≤ M1 := by omega
 have hLe1 : M1 ≤ 1048576 := by omega
 have HC2 := Lib.hid (fun w' (hb : Below W1.heap.size W1 w') => szLts_any (.agg #[.int .i64 t2.states, .int .i64 t2.initial, l2, e2]) lo t2 M1 w' hLz1 hLe1 K2.out ⟨l2, e2, rfl, HS2.out.below hb, HE2.out.below hb⟩)
 by_cases c2 : szL t2 M1 < 0
 ·clear HG hLe1 hfit1
  go_enter Tryz.func4, Tryz.ntmps4
  go_wp2_with fail
  rw [← HW1.out]
  refine Calls.mono (HC1.out _ (Below.refl _ _)) ?_
  rintro e y1 ⟨rfl, hb1⟩
  have D1 := Lib.hid hb1
  obtain ⟨x0, x1, x2, x3⟩ := blk4 (X2.out.below D1.out)
  rw [← HN0.out]
  clear hb1
  go_wp2_with fail
  refine Calls.mono (HC2.out _ D1.out) ?_
  rintro e y2 ⟨rfl, hb2⟩
  have D2 := Lib.hid (D1.out.trans (hb2.mono D1.out.size))
  clear x0 x1 x2 x3
  clear hb2
  go_wp2_with fail
  go_ret
  exact ⟨rfl, HB1.out.trans (D2.out.mono HB1.out.size)⟩
 have hfit2 := szL_fit (t := t2) (left := M1) hLz1 (by omega)
 obtain ⟨M2, hM2⟩ : ∃ M2, M2 = szL t2 M1 := ⟨_, rfl⟩
 rw [← hM2] at c2 hfit2 HC2
 have HMM2 := Lib.hid hM2
 clear hM2
 have hLz2 : 0 ≤ M2 := by omega
 have hLe2 : M2 ≤ 1048576 := by omega
 have HC3 := Lib.hid (fun w' (hb : Below W1.heap.size W1 w') => szStringS_any v3 lo ins M2 w' hLz2 hLe2 K3.out (HS3.out.below hb))
 by_cases c3 : szSS ins M2 < 0
 ·clear HG hLe1 hfit1 hLe2 hfit2
  go_enter Tryz.func4, Tryz.ntmps4
  go_wp2_with fail
  rw [← HW1.out]
  refine Calls.mono (HC1.out _ (Below.refl _ _)) ?_
  rintro e y1 ⟨rfl, hb1⟩
  have D1 := Lib.hid hb1
  obtain ⟨x0, x1, x2, x3⟩ := blk4 (X2.out.below D1.out)
  rw [← HN0.out]
  clear hb1
  go_wp2_with fail
  refine Calls.mono (HC2.out _ D1.out) ?_
  rintro e y2 ⟨rfl, hb2⟩
  have D2 := Lib.hid (D1.out.trans (hb2.mono D1.out.size))
  clear x0 x1 x2 x3
  clear hb2
  go_wp2_with fail
  refine Calls.mono (HC3.out _ D2.out) ?_
  rintro e y3 ⟨rfl, rfl⟩
  go_wp2_with fail
  go_ret
  exact ⟨rfl, HB1.out.trans (D2.out.mono HB1.out.size)⟩
 have hfit3 := szSS_fit (ss := ins) (left := M2) hLe2 (by omega)
 obtain ⟨M3, hM3⟩ : ∃ M3, M3 = szSS ins M2 := ⟨_, rfl⟩
 rw [← hM3] at c3 HC3
 clear hM3
 have J3 : Hid (Short20 ins) := fun i hi => by have := hfit3.2 _ (List.getElem_mem hi); omega
 have I3 : Hid (Short ins) := fun i hi => Nat.le_trans (J3.out i hi) (by decide)
 have hln3 : ins.length ≤ 1048576 := by omega
 have HLN3 := Lib.hid hln3
 have HT3 : Hid (∀ w', Below W1.heap.size W1 w' → Calls Tryz.prog 14 #[v3] w' (MadeStrs w' ins)) := fun w' hb => toStringS_any v3 lo ins w' HLN3.out (HS3.out.below hb)
 clear hfit3 hln3
 have hll1 : t1.labels.length ≤ 1048576 := by omega
 have hel1 : t1.edges.length ≤ 1048576 := by omega
 have J1 : Hid (Short20 t1.labels) := fun i hi => by have := hfit1.2.2.1 _ (List.getElem_mem hi); omega
 have I1 : Hid (Short t1.labels) := fun i hi => Nat.le_trans (J1.out i hi) (by decide)
 have HT1 : Hid (∀ w', Below W1.heap.size W1 w' → Calls Tryz.prog 7 #[.agg #[.int .i64 t1.states, .int .i64 t1.initial, l1, e1]] w' (CopyMade t1 w')) := fun w' hb => copy_any lo t1 _ _ w' hll1 hel1 (HS1.out.below hb) (HE1.out.below hb)
 have HLN1 : Hid (t1.labels.length ≤ 1048576 ∧ t1.edges.length ≤ 1048576) := ⟨hll1, hel1⟩
 have hll2 : t2.labels.length ≤ 1048576 := by omega
 have hel2 : t2.edges.length ≤ 1048576 := by omega
 have J2 : Hid (Short20 t2.labels) := fun i hi => by have := hfit2.2.2.1 _ (List.getElem_mem hi); omega
 have I2 : Hid (Short t2.labels) := fun i hi => Nat.le_trans (J2.out i hi) (by decide)
 have HT2 : Hid (∀ w', Below W1.heap.size W1 w' → Calls Tryz.prog 7 #[.agg #[.int .i64 t2.states, .int .i64 t2.initial, l2, e2]] w' (CopyMade t2 w')) := fun w' hb => copy_any lo t2 _ _ w' hll2 hel2 (HS2.out.below hb) (HE2.out.below hb)
 have HLN2 : Hid (t2.labels.length ≤ 1048576 ∧ t2.edges.length ≤ 1048576) := ⟨hll2, hel2⟩
 have HSPEC : Hid (∀ (a1 b1 : Value) (a2 b2 : Value) (c3 : Value) (w' : World), SliceK 1 encS 0 w' a1 t1.labels → SliceK 3 encE 0 w' b1 t1.edges → SliceK 1 encS 0 w' a2 t2.labels → SliceK 3 encE 0 w' b2 t2.edges → SliceK 1 encS 0 w' c3 ins → Calls Tryz.prog 13 #[.agg #[.int .i64 t1.states, .int .i64 t1.initial, a1, b1], .agg #[.int .i64 t2.states, .int .i64 t2.initial, a2, b2], c3] w' (RetCon t1 t2 ins w')) := fun _ _ _ _ _ w' h1 k1 h2 k2 s3 => specConforms_any 0 t1 _ _ t2 _ _ _ ins w' I1.out I2.out h1 k1 h2 k2 s3
 have HIMPL : Hid (∀ (a1 b1 : Value) (a2 b2 : Value) (c3 : Value) (w' : World), SliceK 1 encS 0 w' a1 t1.labels → SliceK 3 encE 0 w' b1 t1.edges → SliceK 1 encS 0 w' a2 t2.labels → SliceK 3 encE 0 w' b2 t2.edges → SliceK 1 encS 0 w' c3 ins → Glob w' → Calls Tryz.prog 15 #[.agg #[.int .i64 t1.states, .int .i64 t1.initial, a1, b1], .agg #[.int .i64 t2.states, .int .i64 t2.initial, a2, b2], c3] w' (RetCon t1 t2 ins w')) := fun _ _ _ _ _ w' h1 k1 h2 k2 s3 hg => implConforms_any 0 t1 _ _ t2 _ _ _ ins w' J1.out J2.out J3.out h1 k1 h2 k2 s3 hg
 clear hfit1 hll1 hel1 hfit2 hll2 hel2
 go_enter Tryz.func4, Tryz.ntmps4
 go_wp2_with fail
 rw [← HW1.out]
 refine Calls.mono (HC1.out _ (Below.refl _ _)) ?_
 rintro e w2 ⟨rfl, hb2⟩
 have D2 := Lib.hid hb2
 clear hb2 HC1
 obtain ⟨x0, x1, x2, x3⟩ := blk4 (X2.out.below D2.out)
 rw [← HN0.out]
 go_wp2_with fail
 refine Calls.mono (HC2.out _ D2.out) ?_
 rintro e w3 ⟨rfl, hb3⟩
 have D3 := Lib.hid (D2.out.trans (hb3.mono D2.out.size))
 clear hb3 HC2 x0 x1 x2 x3
 go_wp2_with fail
 refine Calls.mono (HC3.out _ D3.out) ?_
 rintro e w4 ⟨rfl, rfl⟩
 clear HC3
 go_wp2_with fail
 have hDd : Below W1.heap.size W1 w3.drew := D3.out.drew
 have G0 : Hid (w3.cell? ⟨n0, 0, none⟩ = some (.int .i64 t1.states) ∧ w3.cell? ⟨n0, 1, none⟩ = some (.int .i64 t1.initial) ∧ w3.cell? ⟨n0, 2, none⟩ = some (l1) ∧ w3.cell? ⟨n0, 3, none⟩ = some (e1) ∧ w3.cell? ⟨n0 + 1, 0, none⟩ = some (.int .i64 t2.states) ∧ w3.cell? ⟨n0 + 1, 1, none⟩ = some (.int .i64 t2.initial) ∧ w3.cell? ⟨n0 + 1, 2, none⟩ = some (l2) ∧ w3.cell? ⟨n0 + 1, 3, none⟩ = some (e2)) := ⟨(X1.out.below D3.out).cell 0 rfl, (X1.out.below D3.out).cell 1 rfl, (X1.out.below D3.out).cell 2 rfl, (X1.out.below D3.out).cell 3 rfl, (X2.out.below D3.out).cell 0 rfl, (X2.out.below D3.out).cell 1 rfl, (X2.out.below D3.out).cell 2 rfl, (X2.out.below D3.out).cell 3 rfl⟩
 have G1 : Hid (w3.drew.cell? ⟨n0, 0, none⟩ = some (.int .i64 t1.states) ∧ w3.drew.cell? ⟨n0, 1, none⟩ = some (.int .i64 t1.initial) ∧ w3.drew.cell? ⟨n0, 2, none⟩ = some (l1) ∧ w3.drew.cell? ⟨n0, 3, none⟩ = some (e1) ∧ w3.drew.cell? ⟨n0 + 1, 0, none⟩ = some (.int .i64 t2.states) ∧ w3.drew.cell? ⟨n0 + 1, 1, none⟩ = some (.int .i64 t2.initial) ∧ w3.drew.cell? ⟨n0 + 1, 2, none⟩ = some (l2) ∧ w3.drew.cell? ⟨n0 + 1, 3, none⟩ = some (e2)) := ⟨(X1.out.below hDd).cell 0 rfl, (X1.out.below hDd).cell 1 rfl, (X1.out.below hDd).cell 2 rfl, (X1.out.below hDd).cell 3 rfl, (X2.out.below hDd).cell 0 rfl, (X2.out.below hDd).cell 1 rfl, (X2.out.below hDd).cell 2 rfl, (X2.out.below hDd).cell 3 rfl⟩
 go_region_held3 (fun w' => w'.cell? ⟨n0, 0, none⟩ = some (.int .i64 t1.states) ∧ w'.cell? ⟨n0, 1, none⟩ = some (.int .i64 t1.initial) ∧ w'.cell? ⟨n0, 2, none⟩ = some (l1) ∧ w'.cell? ⟨n0, 3, none⟩ = some (e1) ∧ w'.cell? ⟨n0 + 1, 0, none⟩ = some (.int .i64 t2.states) ∧ w'.cell? ⟨n0 + 1, 1, none⟩ = some (.int .i64 t2.initial) ∧ w'.cell? ⟨n0 + 1, 2, none⟩ = some (l2) ∧ w'.cell? ⟨n0 + 1, 3, none⟩ = some (e2))
  (first | exact G0.out | exact G1.out | exact G2.out | exact G3.out | exact G4.out | exact G5.out | go_keep)
  (first
   | (go_at_call_of 7 (Value.agg #[Value.int .i64 t1.states, Value.int .i64 t1.initial, l1, e1]); refine Calls.mono (HT1.out _ hDd) ?_; rintro e w5 ⟨b51, b52, rfl, hb5, hc5⟩; have hD5 := hDd.trans (hb5.mono hDd.size); have G2 : Hid (w5.cell? ⟨n0, 0, none⟩ = some (.int .i64 t1.states) ∧ w5.cell? ⟨n0, 1, none⟩ = some (.int .i64 t1.initial) ∧ w5.cell? ⟨n0, 2, none⟩ = some (l1) ∧ w5.cell? ⟨n0, 3, none⟩ = some (e1) ∧ w5.cell? ⟨n0 + 1, 0, none⟩ = some (.int .i64 t2.states) ∧ w5.cell? ⟨n0 + 1, 1, none⟩ = some (.int .i64 t2.initial) ∧ w5.cell? ⟨n0 + 1, 2, none⟩ = some (l2) ∧ w5.cell? ⟨n0 + 1, 3, none⟩ = some (e2)) := ⟨(X1.out.below hD5).cell 0 rfl, (X1.out.below hD5).cell 1 rfl, (X1.out.below hD5).cell 2 rfl, (X1.out.below hD5).cell 3 rfl, (X2.out.below hD5).cell 0 rfl, (X2.out.below hD5).cell 1 rfl, (X2.out.below hD5).cell 2 rfl, (X2.out.below hD5).cell 3 rfl⟩)
   | (go_at_call_of 7 (Value.agg #[Value.int .i64 t2.states, Value.int .i64 t2.initial, l2, e2]); refine Calls.mono (HT2.out _ hD5) ?_; rintro e w6 ⟨b61, b62, rfl, hb6, hc6⟩; have hD6 := hD5.trans (hb6.mono hD5.size); have G3 : Hid (w6.cell? ⟨n0, 0, none⟩ = some (.int .i64 t1.states) ∧ w6.cell? ⟨n0, 1, none⟩ = some (.int .i64 t1.initial) ∧ w6.cell? ⟨n0, 2, none⟩ = some (l1) ∧ w6.cell? ⟨n0, 3, none⟩ = some (e1) ∧ w6.cell? ⟨n0 + 1, 0, none⟩ = some (.int .i64 t2.states) ∧ w6.cell? ⟨n0 + 1, 1, none⟩ = some (.int .i64 t2.initial) ∧ w6.cell? ⟨n0 + 1, 2, none⟩ = some (l2) ∧ w6.cell? ⟨n0 + 1, 3, none⟩ = some (e2)) := ⟨(X1.out.below hD6).cell 0 rfl, (X1.out.below hD6).cell 1 rfl, (X1.out.below hD6).cell 2 rfl, (X1.out.below hD6).cell 3 rfl, (X2.out.below hD6).cell 0 rfl, (X2.out.below hD6).cell 1 rfl, (X2.out.below hD6).cell 2 rfl, (X2.out.below hD6).cell 3 rfl⟩)
   | (go_at_call 14; refine Calls.mono (HT3.out _ hD6) ?_; rintro e w7 ⟨rfl, hb7, -, ho7⟩; have hD7 := hD6.trans (hb7.mono hD6.size); have G5 : Hid (w7.cell? ⟨n0, 0, none⟩ = some (.int .i64 t1.states) ∧ w7.cell? ⟨n0, 1, none⟩ = some (.int .i64 t1.initial) ∧ w7.cell? ⟨n0, 2, none⟩ = some (l1) ∧ w7.cell? ⟨n0, 3, none⟩ = some (e1) ∧ w7.cell? ⟨n0 + 1, 0, none⟩ = some (.int .i64 t2.states) ∧ w7.cell? ⟨n0 + 1, 1, none⟩ = some (.int .i64 t2.initial) ∧ w7.cell? ⟨n0 + 1, 2, none⟩ = some (l2) ∧ w7.cell? ⟨n0 + 1, 3, none⟩ = some (e2)) := ⟨(X1.out.below hD7).cell 0 rfl, (X1.out.below hD7).cell 1 rfl, (X1.out.below hD7).cell 2 rfl, (X1.out.below hD7).cell 3 rfl, (X2.out.below hD7).cell 0 rfl, (X2.out.below hD7).cell 1 rfl, (X2.out.below hD7).cell 2 rfl, (X2.out.below hD7).cell 3 rfl⟩)
   | (go_at_call 13; refine Calls.mono (HSPEC.out _ _ _ _ _ _ ((hc5.below hb6).below hb7).labels ((hc5.below hb6).below hb7).edges (hc6.below hb7).labels (hc6.below hb7).edges (SliceK.of_owns (enc := encS) (e := 9) encS_len rfl (by rw [flat_encS]; exact own_lower ho7 (Nat.zero_le _)))) ?_; rintro e w8 ⟨hb8, r, xs, o, code, vS, rfl, hisS, hoS1⟩; have hD8 := hD7.trans (hb8.mono hD7.size); have G4 : Hid (w8.cell? ⟨n0, 0, none⟩ = some (.int .i64 t1.states) ∧ w8.cell? ⟨n0, 1, none⟩ = some (.int .i64 t1.initial) ∧ w8.cell? ⟨n0, 2, none⟩ = some (l1) ∧ w8.cell? ⟨n0, 3, none⟩ = some (e1) ∧ w8.cell? ⟨n0 + 1, 0, none⟩ = some (.int .i64 t2.states) ∧ w8.cell? ⟨n0 + 1, 1, none⟩ = some (.int .i64 t2.initial) ∧ w8.cell? ⟨n0 + 1, 2, none⟩ = some (l2) ∧ w8.cell? ⟨n0 + 1, 3, none⟩ = some (e2)) := ⟨(X1.out.below hD8).cell 0 rfl, (X1.out.below hD8).cell 1 rfl, (X1.out.below hD8).cell 2 rfl, (X1.out.below hD8).cell 3 rfl, (X2.out.below hD8).cell 0 rfl, (X2.out.below hD8).cell 1 rfl, (X2.out.below hD8).cell 2 rfl, (X2.out.below hD8).cell 3 rfl⟩)
   | fail)
 have hq6 : Below w3.heap.size w3 w6 := (((Below.refl w3.heap.size w3).drew).trans (hb5.mono (by simp))).trans (hb6.mono (Nat.le_trans (by simp) hb5.size))
 have hq7 : Below w3.heap.size w3 w7 := hq6.trans (hb7.mono hq6.size)
 have hall8 : Below w3.heap.size w3 w8 := hq7.trans (hb8.mono hq7.size)
 have hsw8 : w3.heap.size ≤ w7.heap.size := hq7.size
 have HIS := Lib.hid hisS
 have HOS1 := Lib.hid hoS1
 have D8 := Lib.hid (D3.out.trans (hall8.mono D3.out.size))
 clear hisS hoS1 HSPEC hall8 hb5 hb6 hb7 hb8 hc5 hc6 ho7 hDd hD5 hD6 hD7 hD8 hq6 hq7 G0 G1 G2 G3 G4 G5
 have HWS1 : Hid (W1.heap.size ≤ w8.heap.size) := D8.out.size
 have HSS : Hid (w8.heap.size ≤ w8.heap.size) := ((Below.refl w8.heap.size w8)).size
 obtain ⟨x0, x1, x2, x3⟩ := blk4 (X1.out.below D8.out)
 go_wp2_with fail
 refine Calls.mono (HT1.out _ D8.out) ?_
 rintro e w9 ⟨p11, p12, rfl, hb9, hc9⟩
 have CP1 := Lib.hid hc9
 have HBS1 : Hid (w8.heap.size ≤ w8.heap.size) := ((Below.refl w8.heap.size w8)).size
 have D9 := Lib.hid (D8.out.trans (hb9.mono D8.out.size))
 have E9 := Lib.hid hb9
 clear x0 x1 x2 x3 hb9 hc9
 obtain ⟨w10, hw10⟩ : ∃ w10, w10 = w9.alloc (.cells #[.int .i64 t1.states, .int .i64 t1.initial, .slice (some ⟨p11, 0, none⟩) t1.labels.length t1.labels.length, .slice (some ⟨p12, 0, none⟩) t1.edges.length t1.edges.length] 29) := ⟨_, rfl⟩
 have hb10 : Below w9.heap.size w9 w10 := by rw [hw10]; exact boxNew _ _ _
 obtain ⟨kx1, hkx1⟩ : ∃ kx1, kx1 = w9.heap.size := ⟨_, rfl⟩
 have XC1 : Hid (Blk w10 kx1 [.int .i64 t1.states, .int .i64 t1.initial, .slice (some ⟨p11, 0, none⟩) t1.labels.length t1.labels.length, .slice (some ⟨p12, 0, none⟩) t1.edges.length t1.edges.length] 29) := by unfold Hid; rw [hw10, hkx1]; exact Blk.new _ _ _
 have CQ1 := Lib.hid (CP1.out.below hb10)
 have HKX1 := Lib.hid hkx1
 have HW10 := Lib.hid hw10
 have hb61 : p12 < kx1 := by rw [hkx1]; exact CP1.out.h3
 have HB61 := Lib.hid hb61
 have HZX1 : Hid (w10.heap.size = kx1 + 1) := by unfold Hid; rw [hw10, hkx1]; simp
 have HBX1 : Hid (w8.heap.size ≤ kx1) := by unfold Hid; rw [hkx1]; exact (show w8.heap.size ≤ w9.heap.size from (by have := CP1.out.h1; have := CP1.out.h2; have := CP1.out.h3; omega))
 have D10 := Lib.hid (D9.out.trans (hb10.mono D9.out.size))
 have E10 := Lib.hid (E9.out.trans (hb10.mono E9.out.size))
 clear hb10 hw10 hkx1 hb61
 obtain ⟨x0, x1, x2, x3⟩ := blk4 (X2.out.below D10.out)
 rw [HW10.out] at x0 x1 x2 x3
 go_wp2_with fail
 rw [← HW10.out]
 refine Calls.mono (HT2.out _ D10.out) ?_
 rintro e w11 ⟨p21, p22, rfl, hb11, hc11⟩
 have CP2 := Lib.hid hc11
 have HBS2 : Hid (w8.heap.size ≤ w10.heap.size) := (E10.out).size
 have D11 := Lib.hid (D10.out.trans (hb11.mono D10.out.size))
 have E11 := Lib.hid (E10.out.trans (hb11.mono E10.out.size))
 have P111 := Lib.hid hb11
 clear x0 x1 x2 x3 hb11 hc11
 obtain ⟨w12, hw12⟩ : ∃ w12, w12 = w11.alloc (.cells #[.int .i64 t2.states, .int .i64 t2.initial, .slice (some ⟨p21, 0, none⟩) t2.labels.length t2.labels.length, .slice (some ⟨p22, 0, none⟩) t2.edges.length t2.edges.length] 29) := ⟨_, rfl⟩
 have hb12 : Below w11.heap.size w11 w12 := by rw [hw12]; exact boxNew _ _ _
 obtain ⟨kx2, hkx2⟩ : ∃ kx2, kx2 = w11.heap.size := ⟨_, rfl⟩
 have XC2 : Hid (Blk w12 kx2 [.int .i64 t2.states, .int .i64 t2.initial, .slice (some ⟨p21, 0, none⟩) t2.labels.length t2.labels.length, .slice (some ⟨p22, 0, none⟩) t2.edges.length t2.edges.length] 29) := by unfold Hid; rw [hw12, hkx2]; exact Blk.new _ _ _
 have CQ2 := Lib.hid (CP2.out.below hb12)
 have HKX2 := Lib.hid hkx2
 have HW12 := Lib.hid hw12
 have hb62 : p22 < kx2 := by rw [hkx2]; exact CP2.out.h3
 have HB62 := Lib.hid hb62
 have HZX2 : Hid (w12.heap.size = kx2 + 1) := by unfold Hid; rw [hw12, hkx2]; simp
 have HBX2 : Hid (w10.heap.size ≤ kx2) := by unfold Hid; rw [hkx2]; exact (show w10.heap.size ≤ w11.heap.size from (by have := CP2.out.h1; have := CP2.out.h2; have := CP2.out.h3; omega))
 have D12 := Lib.hid (D11.out.trans (hb12.mono D11.out.size))
 have E12 := Lib.hid (E11.out.trans (hb12.mono E11.out.size))
 have P112 := Lib.hid (P111.out.trans (hb12.mono P111.out.size))
 clear hb12 hw12 hkx2 hb62
 go_wp2_with fail
 rw [← HW12.out, ← HKX2.out]
 refine Calls.mono (HT3.out _ D12.out) ?_
 rintro e w13 ⟨rfl, hb13, hgt13, ho13⟩
 obtain ⟨kv, hkv⟩ : ∃ kv, kv = w12.heap.size := ⟨_, rfl⟩
 rw [← hkv] at ho13 hgt13
 rw [← hkv]
 have SV := Lib.hid ho13
 have HKVB1 : Hid (kx1 + 1 ≤ kv) := by have := HZX1.out; have := (P112.out).size; unfold Hid; omega
 have HKVB2 : Hid (kx2 + 1 ≤ kv) := by have := HZX2.out; have := ((Below.refl w12.heap.size w12)).size; unfold Hid; omega
 have HKVW : Hid (kv < w13.heap.size) := hgt13
 have D13 := Lib.hid (D12.out.trans (hb13.mono D12.out.size))
 have E13 := Lib.hid (E12.out.trans (hb13.mono E12.out.size))
 have P113 := Lib.hid (P112.out.trans (hb13.mono P112.out.size))
 have P213 := Lib.hid hb13
 clear hb13 hgt13 ho13 hkv
 have HWI1 : Hid (kx1 + 1 ≤ w13.heap.size) := by have := (P113.out).size; have := HZX1.out; unfold Hid; omega
 have HWI2 : Hid (kx2 + 1 ≤ w13.heap.size) := by have := (P213.out).size; have := HZX2.out; unfold Hid; omega
 have HWIS : Hid (w8.heap.size ≤ w13.heap.size) := (E13.out).size
 have HKVI : Hid (kv + 1 ≤ w13.heap.size) := by have := ((Below.refl w13.heap.size w13)).size; have := HKVW.out; unfold Hid; omega
 obtain ⟨x0, x1, x2, x3⟩ := blk4 (XC1.out.below P113.out)
 obtain ⟨y0, y1, y2, y3⟩ := blk4 (XC2.out.below P213.out)
 have hlt1 := (XC1.out.below P113.out).lt
 have hlt2 := (XC2.out.below P213.out).lt
 have HGO := Lib.hid (HIMPL.out _ _ _ _ _ _ (CQ1.out.below P113.out).labels (CQ1.out.below P113.out).edges (CQ2.out.below P213.out).labels (CQ2.out.below P213.out).edges (SliceK.of_owns (enc := encS) (e := 9) encS_len rfl (by rw [flat_encS]; exact own_lower (owns_below SV.out (Below.refl w13.heap.size w13)) (Nat.zero_le _))) (HG.out.below D13.out))
 rw [← HKX1.out]
 go_wp2_with fail
 refine Calls.mono HGO.out ?_
 rintro e w14 ⟨hb14, rg, xsg, og, codeg, vG, rfl, hisG, hoG1⟩
 obtain ⟨hq0, hq1, hq2, hq3⟩ := HIS.out.unique hisG
 subst hq0 hq1 hq2 hq3
 have HOG1 := Lib.hid hoG1
 have D14 := Lib.hid (D13.out.trans (hb14.mono D13.out.size))
 have E14 := Lib.hid (E13.out.trans (hb14.mono E13.out.size))
 have P114 := Lib.hid (P113.out.trans (hb14.mono P113.out.size))
 have P214 := Lib.hid (P213.out.trans (hb14.mono P213.out.size))
 have S14 := Lib.hid hb14
 have I14 := Lib.hid hb14
 clear hisG hb14 HGO hoG1 x0 x1 x2 x3 y0 y1 y2 y3 hlt1 hlt2
 go_wp2_with fail
 refine (eqStringS_same _ _ _ _ xs _ ((HOG1.out.below (Below.refl w14.heap.size w14)).at) ((HOS1.out.below E14.out).at)).mono ?_
 rintro e w15 ⟨rfl, hb15⟩
 have D15 := Lib.hid (D14.out.trans (hb15.mono D14.out.size))
 have E15 := Lib.hid (E14.out.trans (hb15.mono E14.out.size))
 have P115 := Lib.hid (P114.out.trans (hb15.mono P114.out.size))
 have P215 := Lib.hid (P214.out.trans (hb15.mono P214.out.size))
 have S15 := Lib.hid (S14.out.trans (hb15.mono S14.out.size))
 have I15 := Lib.hid (I14.out.trans (hb15.mono I14.out.size))
 have G15 := Lib.hid hb15
 clear hb15
 go_wp2_with fail
 have hDd : Below W1.heap.size W1 w15.drew := D15.out.drew
 have hPd := (P115.out).drew
 have G0 : Hid (w15.cell? ⟨kx1, 0, none⟩ = some (.int .i64 t1.states) ∧ w15.cell? ⟨kx1, 1, none⟩ = some (.int .i64 t1.initial) ∧ w15.cell? ⟨kx1, 2, none⟩ = some (.slice (some ⟨p11, 0, none⟩) t1.labels.length t1.labels.length) ∧ w15.cell? ⟨kx1, 3, none⟩ = some (.slice (some ⟨p12, 0, none⟩) t1.edges.length t1.edges.length) ∧ w15.cell? ⟨n0, 0, none⟩ = some (.int .i64 t1.states) ∧ w15.cell? ⟨n0, 1, none⟩ = some (.int .i64 t1.initial) ∧ w15.cell? ⟨n0, 2, none⟩ = some (l1) ∧ w15.cell? ⟨n0, 3, none⟩ = some (e1)) := ⟨(XC1.out.below P115.out).cell 0 rfl, (XC1.out.below P115.out).cell 1 rfl, (XC1.out.below P115.out).cell 2 rfl, (XC1.out.below P115.out).cell 3 rfl, (X1.out.below D15.out).cell 0 rfl, (X1.out.below D15.out).cell 1 rfl, (X1.out.below D15.out).cell 2 rfl, (X1.out.below D15.out).cell 3 rfl⟩
 have G1 : Hid (w15.drew.cell? ⟨kx1, 0, none⟩ = some (.int .i64 t1.states) ∧ w15.drew.cell? ⟨kx1, 1, none⟩ = some (.int .i64 t1.initial) ∧ w15.drew.cell? ⟨kx1, 2, none⟩ = some (.slice (some ⟨p11, 0, none⟩) t1.labels.length t1.labels.length) ∧ w15.drew.cell? ⟨kx1, 3, none⟩ = some (.slice (some ⟨p12, 0, none⟩) t1.edges.length t1.edges.length) ∧ w15.drew.cell? ⟨n0, 0, none⟩ = some (.int .i64 t1.states) ∧ w15.drew.cell? ⟨n0, 1, none⟩ = some (.int .i64 t1.initial) ∧ w15.drew.cell? ⟨n0, 2, none⟩ = some (l1) ∧ w15.drew.cell? ⟨n0, 3, none⟩ = some (e1)) := ⟨(XC1.out.below hPd).cell 0 rfl, (XC1.out.below hPd).cell 1 rfl, (XC1.out.below hPd).cell 2 rfl, (XC1.out.below hPd).cell 3 rfl, (X1.out.below hDd).cell 0 rfl, (X1.out.below hDd).cell 1 rfl, (X1.out.below hDd).cell 2 rfl, (X1.out.below hDd).cell 3 rfl⟩
 go_region_held3 (fun w' => w'.cell? ⟨kx1, 0, none⟩ = some (.int .i64 t1.states) ∧ w'.cell? ⟨kx1, 1, none⟩ = some (.int .i64 t1.initial) ∧ w'.cell? ⟨kx1, 2, none⟩ = some (.slice (some ⟨p11, 0, none⟩) t1.labels.length t1.labels.length) ∧ w'.cell? ⟨kx1, 3, none⟩ = some (.slice (some ⟨p12, 0, none⟩) t1.edges.length t1.edges.length) ∧ w'.cell? ⟨n0, 0, none⟩ = some (.int .i64 t1.states) ∧ w'.cell? ⟨n0, 1, none⟩ = some (.int .i64 t1.initial) ∧ w'.cell? ⟨n0, 2, none⟩ = some (l1) ∧ w'.cell? ⟨n0, 3, none⟩ = some (e1))
  (first | exact G0.out | exact G1.out | exact G2.out | exact G3.out | go_keep)
  (first
   | (go_at_call 7; refine Calls.mono (HT1.out _ hDd) ?_; rintro e w16 ⟨b161, b162, rfl, hb16, hc16⟩; have hD2 := hDd.trans (hb16.mono hDd.size); have hP2 := hPd.trans (hb16.mono hPd.size); have G2 : Hid (w16.cell? ⟨kx1, 0, none⟩ = some (.int .i64 t1.states) ∧ w16.cell? ⟨kx1, 1, none⟩ = some (.int .i64 t1.initial) ∧ w16.cell? ⟨kx1, 2, none⟩ = some (.slice (some ⟨p11, 0, none⟩) t1.labels.length t1.labels.length) ∧ w16.cell? ⟨kx1, 3, none⟩ = some (.slice (some ⟨p12, 0, none⟩) t1.edges.length t1.edges.length) ∧ w16.cell? ⟨n0, 0, none⟩ = some (.int .i64 t1.states) ∧ w16.cell? ⟨n0, 1, none⟩ = some (.int .i64 t1.initial) ∧ w16.cell? ⟨n0, 2, none⟩ = some (l1) ∧ w16.cell? ⟨n0, 3, none⟩ = some (e1)) := ⟨(XC1.out.below hP2).cell 0 rfl, (XC1.out.below hP2).cell 1 rfl, (XC1.out.below hP2).cell 2 rfl, (XC1.out.below hP2).cell 3 rfl, (X1.out.below hD2).cell 0 rfl, (X1.out.below hD2).cell 1 rfl, (X1.out.below hD2).cell 2 rfl, (X1.out.below hD2).cell 3 rfl⟩)
   | (go_at_call 9; refine (eqLts_same _ _ 0 0 t1 _ (CQ1.out.below hP2).at hc16.at).mono ?_; rintro e w17 ⟨rfl, hb17⟩; have hD3 := hD2.trans (hb17.mono hD2.size); have hP3 := hP2.trans (hb17.mono hP2.size); have G3 : Hid (w17.cell? ⟨kx1, 0, none⟩ = some (.int .i64 t1.states) ∧ w17.cell? ⟨kx1, 1, none⟩ = some (.int .i64 t1.initial) ∧ w17.cell? ⟨kx1, 2, none⟩ = some (.slice (some ⟨p11, 0, none⟩) t1.labels.length t1.labels.length) ∧ w17.cell? ⟨kx1, 3, none⟩ = some (.slice (some ⟨p12, 0, none⟩) t1.edges.length t1.edges.length) ∧ w17.cell? ⟨n0, 0, none⟩ = some (.int .i64 t1.states) ∧ w17.cell? ⟨n0, 1, none⟩ = some (.int .i64 t1.initial) ∧ w17.cell? ⟨n0, 2, none⟩ = some (l1) ∧ w17.cell? ⟨n0, 3, none⟩ = some (e1)) := ⟨(XC1.out.below hP3).cell 0 rfl, (XC1.out.below hP3).cell 1 rfl, (XC1.out.below hP3).cell 2 rfl, (XC1.out.below hP3).cell 3 rfl, (X1.out.below hD3).cell 0 rfl, (X1.out.below hD3).cell 1 rfl, (X1.out.below hD3).cell 2 rfl, (X1.out.below hD3).cell 3 rfl⟩))
 have hall17 : Below w15.heap.size w15 w17 := (((Below.refl w15.heap.size w15).drew).trans (hb16.mono (by simp))).trans (hb17.mono (Nat.le_trans (by simp) hb16.size))
 have D17 := Lib.hid (D15.out.trans (hall17.mono D15.out.size))
 have E17 := Lib.hid (E15.out.trans (hall17.mono E15.out.size))
 have P117 := Lib.hid (P115.out.trans (hall17.mono P115.out.size))
 have P217 := Lib.hid (P215.out.trans (hall17.mono P215.out.size))
 have S17 := Lib.hid (S15.out.trans (hall17.mono S15.out.size))
 have I17 := Lib.hid (I15.out.trans (hall17.mono I15.out.size))
 have G17 := Lib.hid (G15.out.trans (hall17.mono G15.out.size))
 clear hDd hPd hD2 hP2 hD3 hP3 G0 G1 G2 G3 hall17 hb16 hc16 hb17
 go_wp2_with fail
 have hDd : Below W1.heap.size W1 w17.drew := D17.out.drew
 have hPd := (P217.out).drew
 have G0 : Hid (w17.cell? ⟨kx2, 0, none⟩ = some (.int .i64 t2.states) ∧ w17.cell? ⟨kx2, 1, none⟩ = some (.int .i64 t2.initial) ∧ w17.cell? ⟨kx2, 2, none⟩ = some (.slice (some ⟨p21, 0, none⟩) t2.labels.length t2.labels.length) ∧ w17.cell? ⟨kx2, 3, none⟩ = some (.slice (some ⟨p22, 0, none⟩) t2.edges.length t2.edges.length) ∧ w17.cell? ⟨n0 + 1, 0, none⟩ = some (.int .i64 t2.states) ∧ w17.cell? ⟨n0 + 1, 1, none⟩ = some (.int .i64 t2.initial) ∧ w17.cell? ⟨n0 + 1, 2, none⟩ = some (l2) ∧ w17.cell? ⟨n0 + 1, 3, none⟩ = some (e2)) := ⟨(XC2.out.below P217.out).cell 0 rfl, (XC2.out.below P217.out).cell 1 rfl, (XC2.out.below P217.out).cell 2 rfl, (XC2.out.below P217.out).cell 3 rfl, (X2.out.below D17.out).cell 0 rfl, (X2.out.below D17.out).cell 1 rfl, (X2.out.below D17.out).cell 2 rfl, (X2.out.below D17.out).cell 3 rfl⟩
 have G1 : Hid (w17.drew.cell? ⟨kx2, 0, none⟩ = some (.int .i64 t2.states) ∧ w17.drew.cell? ⟨kx2, 1, none⟩ = some (.int .i64 t2.initial) ∧ w17.drew.cell? ⟨kx2, 2, none⟩ = some (.slice (some ⟨p21, 0, none⟩) t2.labels.length t2.labels.length) ∧ w17.drew.cell? ⟨kx2, 3, none⟩ = some (.slice (some ⟨p22, 0, none⟩) t2.edges.length t2.edges.length) ∧ w17.drew.cell? ⟨n0 + 1, 0, none⟩ = some (.int .i64 t2.states) ∧ w17.drew.cell? ⟨n0 + 1, 1, none⟩ = some (.int .i64 t2.initial) ∧ w17.drew.cell? ⟨n0 + 1, 2, none⟩ = some (l2) ∧ w17.drew.cell? ⟨n0 + 1, 3, none⟩ = some (e2)) := ⟨(XC2.out.below hPd).cell 0 rfl, (XC2.out.below hPd).cell 1 rfl, (XC2.out.below hPd).cell 2 rfl, (XC2.out.below hPd).cell 3 rfl, (X2.out.below hDd).cell 0 rfl, (X2.out.below hDd).cell 1 rfl, (X2.out.below hDd).cell 2 rfl, (X2.out.below hDd).cell 3 rfl⟩
 go_region_held3 (fun w' => w'.cell? ⟨kx2, 0, none⟩ = some (.int .i64 t2.states) ∧ w'.cell? ⟨kx2, 1, none⟩ = some (.int .i64 t2.initial) ∧ w'.cell? ⟨kx2, 2, none⟩ = some (.slice (some ⟨p21, 0, none⟩) t2.labels.length t2.labels.length) ∧ w'.cell? ⟨kx2, 3, none⟩ = some (.slice (some ⟨p22, 0, none⟩) t2.edges.length t2.edges.length) ∧ w'.cell? ⟨n0 + 1, 0, none⟩ = some (.int .i64 t2.states) ∧ w'.cell? ⟨n0 + 1, 1, none⟩ = some (.int .i64 t2.initial) ∧ w'.cell? ⟨n0 + 1, 2, none⟩ = some (l2) ∧ w'.cell? ⟨n0 + 1, 3, none⟩ = some (e2))
  (first | exact G0.out | exact G1.out | exact G2.out | exact G3.out | go_keep)
  (first
   | (go_at_call 7; refine Calls.mono (HT2.out _ hDd) ?_; rintro e w18 ⟨b181, b182, rfl, hb18, hc18⟩; have hD2 := hDd.trans (hb18.mono hDd.size); have hP2 := hPd.trans (hb18.mono hPd.size); have G2 : Hid (w18.cell? ⟨kx2, 0, none⟩ = some (.int .i64 t2.states) ∧ w18.cell? ⟨kx2, 1, none⟩ = some (.int .i64 t2.initial) ∧ w18.cell? ⟨kx2, 2, none⟩ = some (.slice (some ⟨p21, 0, none⟩) t2.labels.length t2.labels.length) ∧ w18.cell? ⟨kx2, 3, none⟩ = some (.slice (some ⟨p22, 0, none⟩) t2.edges.length t2.edges.length) ∧ w18.cell? ⟨n0 + 1, 0, none⟩ = some (.int .i64 t2.states) ∧ w18.cell? ⟨n0 + 1, 1, none⟩ = some (.int .i64 t2.initial) ∧ w18.cell? ⟨n0 + 1, 2, none⟩ = some (l2) ∧ w18.cell? ⟨n0 + 1, 3, none⟩ = some (e2)) := ⟨(XC2.out.below hP2).cell 0 rfl, (XC2.out.below hP2).cell 1 rfl, (XC2.out.below hP2).cell 2 rfl, (XC2.out.below hP2).cell 3 rfl, (X2.out.below hD2).cell 0 rfl, (X2.out.below hD2).cell 1 rfl, (X2.out.below hD2).cell 2 rfl, (X2.out.below hD2).cell 3 rfl⟩)
   | (go_at_call 9; refine (eqLts_same _ _ 0 0 t2 _ (CQ2.out.below hP2).at hc18.at).mono ?_; rintro e w19 ⟨rfl, hb19⟩; have hD3 := hD2.trans (hb19.mono hD2.size); have hP3 := hP2.trans (hb19.mono hP2.size); have G3 : Hid (w19.cell? ⟨kx2, 0, none⟩ = some (.int .i64 t2.states) ∧ w19.cell? ⟨kx2, 1, none⟩ = some (.int .i64 t2.initial) ∧ w19.cell? ⟨kx2, 2, none⟩ = some (.slice (some ⟨p21, 0, none⟩) t2.labels.length t2.labels.length) ∧ w19.cell? ⟨kx2, 3, none⟩ = some (.slice (some ⟨p22, 0, none⟩) t2.edges.length t2.edges.length) ∧ w19.cell? ⟨n0 + 1, 0, none⟩ = some (.int .i64 t2.states) ∧ w19.cell? ⟨n0 + 1, 1, none⟩ = some (.int .i64 t2.initial) ∧ w19.cell? ⟨n0 + 1, 2, none⟩ = some (l2) ∧ w19.cell? ⟨n0 + 1, 3, none⟩ = some (e2)) := ⟨(XC2.out.below hP3).cell 0 rfl, (XC2.out.below hP3).cell 1 rfl, (XC2.out.below hP3).cell 2 rfl, (XC2.out.below hP3).cell 3 rfl, (X2.out.below hD3).cell 0 rfl, (X2.out.below hD3).cell 1 rfl, (X2.out.below hD3).cell 2 rfl, (X2.out.below hD3).cell 3 rfl⟩))
 have hall19 : Below w17.heap.size w17 w19 := (((Below.refl w17.heap.size w17).drew).trans (hb18.mono (by simp))).trans (hb19.mono (Nat.le_trans (by simp) hb18.size))
 have D19 := Lib.hid (D17.out.trans (hall19.mono D17.out.size))
 have E19 := Lib.hid (E17.out.trans (hall19.mono E17.out.size))
 have P119 := Lib.hid (P117.out.trans (hall19.mono P117.out.size))
 have P219 := Lib.hid (P217.out.trans (hall19.mono P217.out.size))
 have S19 := Lib.hid (S17.out.trans (hall19.mono S17.out.size))
 have I19 := Lib.hid (I17.out.trans (hall19.mono I17.out.size))
 have G19 := Lib.hid (G17.out.trans (hall19.mono G17.out.size))
 clear hDd hPd hD2 hP2 hD3 hP3 G0 G1 G2 G3 hall19 hb18 hc18 hb19
 go_wp2_with fail
 refine Calls.mono (HT3.out _ D19.out) ?_
 rintro e w20 ⟨rfl, hb20, -, ho20⟩
 have HCS20 := Lib.hid ho20
 have D20 := Lib.hid (D19.out.trans (hb20.mono D19.out.size))
 have E20 := Lib.hid (E19.out.trans (hb20.mono E19.out.size))
 have P120 := Lib.hid (P119.out.trans (hb20.mono P119.out.size))
 have P220 := Lib.hid (P219.out.trans (hb20.mono P219.out.size))
 have S20 := Lib.hid (S19.out.trans (hb20.mono S19.out.size))
 have I20 := Lib.hid (I19.out.trans (hb20.mono I19.out.size))
 have G20 := Lib.hid (G19.out.trans (hb20.mono G19.out.size))
 clear hb20 ho20
 go_wp2_with fail
 refine (eqStringS_same _ _ 0 0 ins _ (SliceK.of_owns (enc := encS) (e := 9) encS_len rfl (by rw [flat_encS]; exact own_lower (owns_below SV.out S20.out) (Nat.zero_le _))) (SliceK.of_owns (enc := encS) (e := 9) encS_len rfl (by rw [flat_encS]; exact own_lower HCS20.out (Nat.zero_le _)))).mono ?_
 rintro e w21 ⟨rfl, hb21⟩
 have D21 := Lib.hid (D20.out.trans (hb21.mono D20.out.size))
 have E21 := Lib.hid (E20.out.trans (hb21.mono E20.out.size))
 have P121 := Lib.hid (P120.out.trans (hb21.mono P120.out.size))
 have P221 := Lib.hid (P220.out.trans (hb21.mono P220.out.size))
 have S21 := Lib.hid (S20.out.trans (hb21.mono S20.out.size))
 have I21 := Lib.hid (I20.out.trans (hb21.mono I20.out.size))
 have G21 := Lib.hid (G20.out.trans (hb21.mono G20.out.size))
 clear hb21
 have HWIc : Hid (w13.heap.size ≤ w21.heap.size) := (I21.out).size
 have hcq := CQ1.out.below P121.out
 have hln := HLN1.out
 have hb6 := HB61.out
 have hbx := HBX1.out
 have hkl := (XC1.out.below P121.out).lt
 obtain ⟨N1, hN1⟩ : ∃ N : Int, N = 1 + (t1.labels.length : Int) + 3 * (t1.edges.length : Int) := ⟨_, rfl⟩
 have hNz1 : 0 ≤ N1 := by omega
 have hNb1 : N1 ≤ 5000000 := by omega
 have HM := Lib.hid (markLts_any w8.heap.size kx1 p11 p12 t1.labels.length t1.edges.length t1.states t1.initial _ _ 1 w21 (by decide) (by omega) hcq.h1 (by have := hcq.h2; omega) (by have := hcq.h1; have := hcq.h2; omega) hb6 (by omega) (by have := hcq.h2; omega) hcq.o1 (own_lower hcq.o2 (by have := hcq.h1; have := hcq.h2; omega)))
 rw [← hN1] at HM
 have HN1 := Lib.hid hN1
 have hlow := hcq.h1
 have HLW : Hid (w8.heap.size ≤ w21.heap.size) := by unfold Hid; omega
 obtain ⟨x0, x1, x2, x3⟩ := blk4 (XC1.out.below P121.out)
 clear hcq hln hb6 hbx hlow hN1
 go_wp2_with fail
 refine Calls.mono HM.out ?_
 rintro e w22 ⟨rfl, ht22⟩
 have hb22 : Below w8.heap.size w21 w22 := below_turns ht22 HLW.out
 have D22 := Lib.hid (D21.out.trans (hb22.mono (show W1.heap.size ≤ w8.heap.size from by have := HWS1.out; have := HBS1.out; omega)))
 have E22 := Lib.hid ((E21.out).trans (hb22.mono (show w8.heap.size ≤ w8.heap.size from by have := HBS1.out; have := HSS.out; omega)))
 have XC2' : Hid (Blk w22 kx2 _ 29) := (XC2.out.below P221.out).turns ht22 (.inr (by have := HBX2.out; have := HZX1.out; have := HBS2.out; omega))
 have CQ2' := Lib.hid ((CQ2.out.below P221.out).turns ht22 (by have := HZX1.out; have := HBS2.out; omega))
 clear XC2 CQ2
 have XC2 := XC2'
 clear XC2'
 have CQ2 := CQ2'
 clear CQ2'
 have SV' := Lib.hid (owns_turns (owns_below SV.out S21.out) ht22 (fun b e => .inr (by have h : kv = b := (by simpa [Value.ownBlock] using e); have := HKVB1.out; omega)))
 clear SV
 have SV := SV'
 clear SV'
 have HOGx1 := Lib.hid ((HOG1.out.below G21.out).turns ht22 (show kx1 ≤ w13.heap.size from by have := HZX1.out; have := HWI1.out; omega))
 clear HOG1
 have HOG1 := HOGx1
 clear HOGx1
 have HWM22 : Hid (w13.heap.size ≤ w22.heap.size) := by have := HWIc.out; have := ht22.size; unfold Hid; omega
 clear HWIc
 have HWIc := HWM22
 clear HWM22
 clear x0 x1 x2 x3 hkl HM HLW hb22 ht22
 have hcq := CQ2.out.below (Below.refl w22.heap.size w22)
 have hln := HLN2.out
 have hb6 := HB62.out
 have hbx := HBX2.out
 have hkl := (XC2.out.below (Below.refl w22.heap.size w22)).lt
 obtain ⟨N2, hN2⟩ : ∃ N : Int, N = N1 + (t2.labels.length : Int) + 3 * (t2.edges.length : Int) := ⟨_, rfl⟩
 have hNz2 : 0 ≤ N2 := by omega
 have hNb2 : N2 ≤ 10000000 := by omega
 have HM := Lib.hid (markLts_any w10.heap.size kx2 p21 p22 t2.labels.length t2.edges.length t2.states t2.initial _ _ N1 w22 hNz1 (by omega) hcq.h1 (by have := hcq.h2; omega) (by have := hcq.h1; have := hcq.h2; omega) hb6 (by omega) (by have := hcq.h2; omega) hcq.o1 (own_lower hcq.o2 (by have := hcq.h1; have := hcq.h2; omega)))
 rw [← hN2] at HM
 have HN2 := Lib.hid hN2
 have hlow := hcq.h1
 have HLW : Hid (w10.heap.size ≤ w22.heap.size) := by unfold Hid; omega
 obtain ⟨x0, x1, x2, x3⟩ := blk4 (XC2.out.below (Below.refl w22.heap.size w22))
 clear hcq hln hb6 hbx hlow hN2
 go_wp2_with fail
 refine Calls.mono HM.out ?_
 rintro e w23 ⟨rfl, ht23⟩
 have hb23 : Below w10.heap.size w22 w23 := below_turns ht23 HLW.out
 have D23 := Lib.hid (D22.out.trans (hb23.mono (show W1.heap.size ≤ w10.heap.size from by have := HWS1.out; have := HBS2.out; omega)))
 have E23 := Lib.hid ((E22.out).trans (hb23.mono (show w8.heap.size ≤ w10.heap.size from by have := HBS2.out; have := HSS.out; omega)))
 have SV' := Lib.hid (owns_turns (owns_below SV.out (Below.refl w22.heap.size w22)) ht23 (fun b e => .inr (by have h : kv = b := (by simpa [Value.ownBlock] using e); have := HKVB2.out; omega)))
 clear SV
 have SV := SV'
 clear SV'
 have HOGx1 := Lib.hid ((HOG1.out.below (Below.refl w22.heap.size w22)).turns ht23 (show kx2 ≤ w13.heap.size from by have := HZX2.out; have := HWI2.out; omega))
 clear HOG1
 have HOG1 := HOGx1
 clear HOGx1
 have HWM23 : Hid (w13.heap.size ≤ w23.heap.size) := by have := HWIc.out; have := ht23.size; unfold Hid; omega
 clear HWIc
 have HWIc := HWM23
 clear HWM23
 clear x0 x1 x2 x3 hkl HM HLW hb23 ht23
 obtain ⟨N3, hN3⟩ : ∃ N : Int, N = N2 + (ins.length : Int) := ⟨_, rfl⟩
 have hln3 := HLN3.out
 have hNz3 : 0 ≤ N3 := by omega
 have HM := Lib.hid (markStringS_is kv (.slice (some ⟨kv, 0, none⟩) ins.length ins.length) (ins.map Value.string) N2 w23 hNz2 (by rw [List.length_map]; omega) (by rw [List.length_map]; exact owns_below SV.out (Below.refl w23.heap.size w23)))
 rw [List.length_map, ← hN3] at HM
 have HLW : Hid (kv ≤ w23.heap.size) := by have := ((Below.refl w23.heap.size w23)).size; have := HKVI.out; have := HWIc.out; unfold Hid; omega
 clear hN3 hln3
 go_wp2_with fail
 refine Calls.mono HM.out ?_
 rintro e w24 ⟨rfl, hgr24, -⟩
 have ht24 : Turns kv (kv + 1) w23 w24 := turns_one hgr24
 have hb24 : Below kv w23 w24 := below_turns ht24 HLW.out
 have D24 := Lib.hid (D23.out.trans (hb24.mono (show W1.heap.size ≤ kv from by have := HWS1.out; have := HBS1.out; have := HBX1.out; have := HKVB1.out; omega)))
 have E24 := Lib.hid ((E23.out).trans (hb24.mono (show w8.heap.size ≤ kv from by have := HSS.out; have := HBS1.out; have := HBX1.out; have := HKVB1.out; omega)))
 have HOGx1 := Lib.hid ((HOG1.out.below (Below.refl w23.heap.size w23)).turns ht24 HKVI.out)
 clear HOG1
 have HOG1 := HOGx1
 clear HOGx1
 have HWM24 : Hid (w13.heap.size ≤ w24.heap.size) := by have := HWIc.out; have := ht24.size; unfold Hid; omega
 clear HWIc
 have HWIc := HWM24
 clear HWM24
 clear HM HLW hb24 ht24 hgr24
 go_wp2_with fail
 refine (eqStringS_same _ _ _ _ xs _ ((HOG1.out.below (Below.refl w24.heap.size w24)).at) ((HOS1.out.below E24.out).at)).mono ?_
 rintro e w25 ⟨rfl, hb25⟩
 have D25 := Lib.hid (D24.out.trans (hb25.mono D24.out.size))
 have E25 := Lib.hid (E24.out.trans (hb25.mono E24.out.size))
 have G25 := Lib.hid hb25
 clear hb25
 have hwI : w13.heap.size ≤ w25.heap.size := by have := HWIc.out; have := (G25.out).size; omega
 have hfew := HIS.out.few
 obtain ⟨Z0, hZ0⟩ : ∃ Z : Int, Z = 1 + (xs.length : Int) := ⟨_, rfl⟩
 have hZz0 : 0 ≤ Z0 ∧ Z0 ≤ 10000000 := by omega
 have HMK := Lib.hid (markStrs_is w13.heap.size _ xs 1 _ (by decide) (by omega) hwI (HOG1.out.below G25.out))
 rw [← hZ0] at HMK
 have HZZ0 := Lib.hid hZ0
 clear hZ0
 go_wp2_with fail
 refine Calls.mono HMK.out ?_
 rintro e w26 ⟨rfl, hb26, hom, hon⟩
 have HOM := Lib.hid hom
 have HON := Lib.hid hon
 have D26 := Lib.hid (D25.out.trans (hb26.mono (show W1.heap.size ≤ w13.heap.size from by have := HWS1.out; have := HWIS.out; omega)))
 have E26 := Lib.hid ((E25.out).trans (hb26.mono (show w8.heap.size ≤ w13.heap.size from by have := HWIS.out; have := HSS.out; omega)))
 clear HOG1
 have HOG1 := HOM
 clear HOM
 have hwI' : w13.heap.size ≤ w26.heap.size := Nat.le_trans hwI hb26.size
 clear hwI hb26 hom hon HON HMK
 have hwI := hwI'
 clear hwI'
 have HHE := Lib.hid (heldStrs_is w13.heap.size _ xs 1 _ (by decide) (by have := HZZ0.out; have := hZz0; omega) (HOG1.out.below (Below.refl w26.heap.size w26)))
 rw [← HZZ0.out] at HHE
 go_wp2_with fail
 refine Calls.mono HHE.out ?_
 rintro e w27 ⟨rfl, hb27⟩
 have D27 := Lib.hid (D26.out.trans (hb27.mono D26.out.size))
 have E27 := Lib.hid (E26.out.trans (hb27.mono E26.out.size))
 have G27 := Lib.hid hb27
 clear hb27 HHE
 go_wp2_with fail
 have hDd : Below W1.heap.size W1 w27.drew := D27.out.drew
 have G0 : Hid (w27.cell? ⟨n0, 0, none⟩ = some (.int .i64 t1.states) ∧ w27.cell? ⟨n0, 1, none⟩ = some (.int .i64 t1.initial) ∧ w27.cell? ⟨n0, 2, none⟩ = some (l1) ∧ w27.cell? ⟨n0, 3, none⟩ = some (e1) ∧ w27.cell? ⟨n0 + 1, 0, none⟩ = some (.int .i64 t2.states) ∧ w27.cell? ⟨n0 + 1, 1, none⟩ = some (.int .i64 t2.initial) ∧ w27.cell? ⟨n0 + 1, 2, none⟩ = some (l2) ∧ w27.cell? ⟨n0 + 1, 3, none⟩ = some (e2)) := ⟨(X1.out.below D27.out).cell 0 rfl, (X1.out.below D27.out).cell 1 rfl, (X1.out.below D27.out).cell 2 rfl, (X1.out.below D27.out).cell 3 rfl, (X2.out.below D27.out).cell 0 rfl, (X2.out.below D27.out).cell 1 rfl, (X2.out.below D27.out).cell 2 rfl, (X2.out.below D27.out).cell 3 rfl⟩
 have G1 : Hid (w27.drew.cell? ⟨n0, 0, none⟩ = some (.int .i64 t1.states) ∧ w27.drew.cell? ⟨n0, 1, none⟩ = some (.int .i64 t1.initial) ∧ w27.drew.cell? ⟨n0, 2, none⟩ = some (l1) ∧ w27.drew.cell? ⟨n0, 3, none⟩ = some (e1) ∧ w27.drew.cell? ⟨n0 + 1, 0, none⟩ = some (.int .i64 t2.states) ∧ w27.drew.cell? ⟨n0 + 1, 1, none⟩ = some (.int .i64 t2.initial) ∧ w27.drew.cell? ⟨n0 + 1, 2, none⟩ = some (l2) ∧ w27.drew.cell? ⟨n0 + 1, 3, none⟩ = some (e2)) := ⟨(X1.out.below hDd).cell 0 rfl, (X1.out.below hDd).cell 1 rfl, (X1.out.below hDd).cell 2 rfl, (X1.out.below hDd).cell 3 rfl, (X2.out.below hDd).cell 0 rfl, (X2.out.below hDd).cell 1 rfl, (X2.out.below hDd).cell 2 rfl, (X2.out.below hDd).cell 3 rfl⟩
 go_region_held3 (fun w' => w'.cell? ⟨n0, 0, none⟩ = some (.int .i64 t1.states) ∧ w'.cell? ⟨n0, 1, none⟩ = some (.int .i64 t1.initial) ∧ w'.cell? ⟨n0, 2, none⟩ = some (l1) ∧ w'.cell? ⟨n0, 3, none⟩ = some (e1) ∧ w'.cell? ⟨n0 + 1, 0, none⟩ = some (.int .i64 t2.states) ∧ w'.cell? ⟨n0 + 1, 1, none⟩ = some (.int .i64 t2.initial) ∧ w'.cell? ⟨n0 + 1, 2, none⟩ = some (l2) ∧ w'.cell? ⟨n0 + 1, 3, none⟩ = some (e2))
  (first | exact G0.out | exact G1.out | exact G2.out | exact G3.out | exact G4.out | exact G5.out | go_keep)
  (first
   | (go_at_call_of 7 (Value.agg #[Value.int .i64 t1.states, Value.int .i64 t1.initial, l1, e1]); refine Calls.mono (HT1.out _ hDd) ?_; rintro e w28 ⟨b281, b282, rfl, hb28, hc28⟩; have hD28 := hDd.trans (hb28.mono hDd.size); have G2 : Hid (w28.cell? ⟨n0, 0, none⟩ = some (.int .i64 t1.states) ∧ w28.cell? ⟨n0, 1, none⟩ = some (.int .i64 t1.initial) ∧ w28.cell? ⟨n0, 2, none⟩ = some (l1) ∧ w28.cell? ⟨n0, 3, none⟩ = some (e1) ∧ w28.cell? ⟨n0 + 1, 0, none⟩ = some (.int .i64 t2.states) ∧ w28.cell? ⟨n0 + 1, 1, none⟩ = some (.int .i64 t2.initial) ∧ w28.cell? ⟨n0 + 1, 2, none⟩ = some (l2) ∧ w28.cell? ⟨n0 + 1, 3, none⟩ = some (e2)) := ⟨(X1.out.below hD28).cell 0 rfl, (X1.out.below hD28).cell 1 rfl, (X1.out.below hD28).cell 2 rfl, (X1.out.below hD28).cell 3 rfl, (X2.out.below hD28).cell 0 rfl, (X2.out.below hD28).cell 1 rfl, (X2.out.below hD28).cell 2 rfl, (X2.out.below hD28).cell 3 rfl⟩)
   | (go_at_call_of 7 (Value.agg #[Value.int .i64 t2.states, Value.int .i64 t2.initial, l2, e2]); refine Calls.mono (HT2.out _ hD28) ?_; rintro e w29 ⟨b291, b292, rfl, hb29, hc29⟩; have hD29 := hD28.trans (hb29.mono hD28.size); have G3 : Hid (w29.cell? ⟨n0, 0, none⟩ = some (.int .i64 t1.states) ∧ w29.cell? ⟨n0, 1, none⟩ = some (.int .i64 t1.initial) ∧ w29.cell? ⟨n0, 2, none⟩ = some (l1) ∧ w29.cell? ⟨n0, 3, none⟩ = some (e1) ∧ w29.cell? ⟨n0 + 1, 0, none⟩ = some (.int .i64 t2.states) ∧ w29.cell? ⟨n0 + 1, 1, none⟩ = some (.int .i64 t2.initial) ∧ w29.cell? ⟨n0 + 1, 2, none⟩ = some (l2) ∧ w29.cell? ⟨n0 + 1, 3, none⟩ = some (e2)) := ⟨(X1.out.below hD29).cell 0 rfl, (X1.out.below hD29).cell 1 rfl, (X1.out.below hD29).cell 2 rfl, (X1.out.below hD29).cell 3 rfl, (X2.out.below hD29).cell 0 rfl, (X2.out.below hD29).cell 1 rfl, (X2.out.below hD29).cell 2 rfl, (X2.out.below hD29).cell 3 rfl⟩)
   | (go_at_call 14; refine Calls.mono (HT3.out _ hD29) ?_; rintro e w30 ⟨rfl, hb30, -, ho30⟩; have hD30 := hD29.trans (hb30.mono hD29.size); have G5 : Hid (w30.cell? ⟨n0, 0, none⟩ = some (.int .i64 t1.states) ∧ w30.cell? ⟨n0, 1, none⟩ = some (.int .i64 t1.initial) ∧ w30.cell? ⟨n0, 2, none⟩ = some (l1) ∧ w30.cell? ⟨n0, 3, none⟩ = some (e1) ∧ w30.cell? ⟨n0 + 1, 0, none⟩ = some (.int .i64 t2.states) ∧ w30.cell? ⟨n0 + 1, 1, none⟩ = some (.int .i64 t2.initial) ∧ w30.cell? ⟨n0 + 1, 2, none⟩ = some (l2) ∧ w30.cell? ⟨n0 + 1, 3, none⟩ = some (e2)) := ⟨(X1.out.below hD30).cell 0 rfl, (X1.out.below hD30).cell 1 rfl, (X1.out.below hD30).cell 2 rfl, (X1.out.below hD30).cell 3 rfl, (X2.out.below hD30).cell 0 rfl, (X2.out.below hD30).cell 1 rfl, (X2.out.below hD30).cell 2 rfl, (X2.out.below hD30).cell 3 rfl⟩)
   | (go_at_call 15; refine Calls.mono (HIMPL.out _ _ _ _ _ _ ((hc28.below hb29).below hb30).labels ((hc28.below hb29).below hb30).edges (hc29.below hb30).labels (hc29.below hb30).edges (SliceK.of_owns (enc := encS) (e := 9) encS_len rfl (by rw [flat_encS]; exact own_lower ho30 (Nat.zero_le _))) (HG.out.below hD30)) ?_; rintro e w31 ⟨hb31, rh, xsh, oh, codeh, vH, rfl, hisH, hoH1⟩; have hD31 := hD30.trans (hb31.mono hD30.size); have G4 : Hid (w31.cell? ⟨n0, 0, none⟩ = some (.int .i64 t1.states) ∧ w31.cell? ⟨n0, 1, none⟩ = some (.int .i64 t1.initial) ∧ w31.cell? ⟨n0, 2, none⟩ = some (l1) ∧ w31.cell? ⟨n0, 3, none⟩ = some (e1) ∧ w31.cell? ⟨n0 + 1, 0, none⟩ = some (.int .i64 t2.states) ∧ w31.cell? ⟨n0 + 1, 1, none⟩ = some (.int .i64 t2.initial) ∧ w31.cell? ⟨n0 + 1, 2, none⟩ = some (l2) ∧ w31.cell? ⟨n0 + 1, 3, none⟩ = some (e2)) := ⟨(X1.out.below hD31).cell 0 rfl, (X1.out.below hD31).cell 1 rfl, (X1.out.below hD31).cell 2 rfl, (X1.out.below hD31).cell 3 rfl, (X2.out.below hD31).cell 0 rfl, (X2.out.below hD31).cell 1 rfl, (X2.out.below hD31).cell 2 rfl, (X2.out.below hD31).cell 3 rfl⟩)
   | fail)
 have hq29 : Below w27.heap.size w27 w29 := (((Below.refl w27.heap.size w27).drew).trans (hb28.mono (by simp))).trans (hb29.mono (Nat.le_trans (by simp) hb28.size))
 have hq30 : Below w27.heap.size w27 w30 := hq29.trans (hb30.mono hq29.size)
 have hall31 : Below w27.heap.size w27 w31 := hq30.trans (hb31.mono hq30.size)
 have hsw31 : w27.heap.size ≤ w30.heap.size := hq30.size
 obtain ⟨hq0, hq1, hq2, hq3⟩ := HIS.out.unique hisH
 subst hq0 hq1 hq2 hq3
 have HOH1 := Lib.hid hoH1
 have D31 := Lib.hid (D27.out.trans (hall31.mono D27.out.size))
 have E31 := Lib.hid (E27.out.trans (hall31.mono E27.out.size))
 have G31 := Lib.hid (G27.out.trans (hall31.mono G27.out.size))
 clear hisH hoH1 hall31 hb28 hb29 hb30 hb31 hc28 hc29 ho30 hDd hD28 hD29 hD30 hD31 hq29 hq30 G0 G1 G2 G3 G4 G5
 go_wp2_with fail
 refine (eqStringS_same _ _ _ _ xs _ ((HOH1.out.below (Below.refl w31.heap.size w31)).at) ((HOS1.out.below E31.out).at)).mono ?_
 rintro e w32 ⟨rfl, hb32⟩
 have D32 := Lib.hid (D31.out.trans (hb32.mono D31.out.size))
 have E32 := Lib.hid (E31.out.trans (hb32.mono E31.out.size))
 have G32 := Lib.hid (G31.out.trans (hb32.mono G31.out.size))
 have H32 := Lib.hid hb32
 clear hb32
 have HHE := Lib.hid (heldStrs_is w13.heap.size _ xs 1 _ (by decide) (by have := HZZ0.out; have := hZz0; omega) (HOG1.out.below G32.out))
 rw [← HZZ0.out] at HHE
 go_wp2_with fail
 refine Calls.mono HHE.out ?_
 rintro e w33 ⟨rfl, hb33⟩
 have D33 := Lib.hid (D32.out.trans (hb33.mono D32.out.size))
 have E33 := Lib.hid (E32.out.trans (hb33.mono E32.out.size))
 have G33 := Lib.hid (G32.out.trans (hb33.mono G32.out.size))
 have H33 := Lib.hid (H32.out.trans (hb33.mono H32.out.size))
 clear hb33 HHE
 go_wp2_with fail
 go_ret
 exact ⟨rfl, HB1.out.trans (D33.out.mono HB1.out.size)⟩

end Go.Proofs.YtaabkeejbhdenaaGreatDoor
