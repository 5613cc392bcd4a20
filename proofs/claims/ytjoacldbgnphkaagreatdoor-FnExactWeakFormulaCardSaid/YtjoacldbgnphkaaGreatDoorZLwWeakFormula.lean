/-
  For all arguments the law FnExactWeakFormula answers true: the walk that joins both sides.
-/
import Derived.Test.YtjoacldbgnphkaaGreatDoorE21
import Derived.Test.YtjoacldbgnphkaaGreatDoorE23
import Derived.Test.YtjoacldbgnphkaaGreatDoorE9
import Derived.Deep.RegionHeld3
namespace Go.Proofs.YtjoacldbgnphkaaGreatDoor
open Go Go.RowKit


set_option maxRecDepth 100000 in
set_option maxHeartbeats 4000000 in
theorem lawWeakFormula (lo : Nat) (t1 : Lts) (l1 e1 : Value) (q1 : Int) (q2 : Int) (w : World) (hs1 : SliceK 1 encS lo w l1 t1.labels) (he1 : SliceK 3 encE lo w e1 t1.edges) (hk1 : StrsOk t1.labels) (g : Glob w) :
  Calls Tryz.prog 4 #[.agg #[.int .i64 t1.states, .int .i64 t1.initial, l1, e1], .int .i64 q1, .int .i64 q2] w fun e w' => e = .returned (.bool true) ∧ Below w.heap.size w w' := by
 obtain ⟨n0, hn0⟩ : ∃ n0, n0 = w.heap.size := ⟨_, rfl⟩
 obtain ⟨W1, hW1⟩ : ∃ W1, W1 = (w.alloc (.cells #[.int .i64 t1.states, .int .i64 t1.initial, l1, e1] 25)) := ⟨_, rfl⟩
 have hB1 : Below w.heap.size w W1 := by rw [hW1]; exact ((Below.refl _ _).alloc (by simp) _)
 have hX1 : Blk W1 (n0) [.int .i64 t1.states, .int .i64 t1.initial, l1, e1] 25 := by
  have h := Blk.new w [.int .i64 t1.states, .int .i64 t1.initial, l1, e1] 25
  rw [← hn0] at h
  rw [hW1]
  exact h
 have HS1 := Lib.hid (hs1.below hB1)
 have HE1 := Lib.hid (he1.below hB1)
 have K1 := Lib.hid hk1
 have X1 := Lib.hid hX1
 have HG := Lib.hid (g.below hB1)
 have HB1 := Lib.hid hB1
 have HW1 := Lib.hid hW1
 have HN0 := Lib.hid hn0
 clear g hB1 hW1 hn0 hs1 he1 hk1 hX1
 have HC1 := Lib.hid (fun w' (hb : Below W1.heap.size W1 w') => szLts_any (.agg #[.int .i64 t1.states, .int .i64 t1.initial, l1, e1]) lo t1 1048576 w' (by decide) (by decide) K1.out ⟨l1, e1, rfl, HS1.out.below hb, HE1.out.below hb⟩)
 by_cases c1 : szL t1 1048576 < 0
 ·clear HG 
  go_enter Tryz.func4, Tryz.ntmps4
  go_wp2_with fail
  rw [← HW1.out]
  refine Calls.mono (HC1.out _ (Below.refl _ _)) ?_
  rintro e y1 ⟨rfl, hb1⟩
  have D1 := Lib.hid hb1
  clear hb1
  go_wp2_with fail
  go_ret
  exact ⟨rfl, HB1.out.trans (D1.out.mono HB1.out.size)⟩
 have hfit1 := szL_fit (t := t1) (left := 1048576) (by decide) (by omega)
 obtain ⟨M1, hM1⟩ : ∃ M1, M1 = szL t1 1048576 := ⟨_, rfl⟩
 rw [← hM1] at c1 hfit1 HC1
 have HMM1 := Lib.hid hM1
 clear hM1
 have hLz1 : 0 ≤ M1 := by omega
 have hLe1 : M1 ≤ 1048576 := by omega
 have hll1 : t1.labels.length ≤ 1048576 := by omega
 have hel1 : t1.edges.length ≤ 1048576 := by omega
 have J1 : Hid (Short20 t1.labels) := fun i hi => by have := hfit1.2.2.1 _ (List.getElem_mem hi); omega
 have I1 : Hid (Short t1.labels) := fun i hi => Nat.le_trans (J1.out i hi) (by decide)
 have HT1 : Hid (∀ w', Below W1.heap.size W1 w' → Calls Tryz.prog 7 #[.agg #[.int .i64 t1.states, .int .i64 t1.initial, l1, e1]] w' (CopyMade t1 w')) := fun w' hb => copy_any lo t1 _ _ w' hll1 hel1 (HS1.out.below hb) (HE1.out.below hb)
 have HLN1 : Hid (t1.labels.length ≤ 1048576 ∧ t1.edges.length ≤ 1048576) := ⟨hll1, hel1⟩
 have HSPEC : Hid (∀ (a1 b1 : Value) (w' : World), SliceK 1 encS 0 w' a1 t1.labels → SliceK 3 encE 0 w' b1 t1.edges → Calls Tryz.prog 14 #[.agg #[.int .i64 t1.states, .int .i64 t1.initial, a1, b1], .int .i64 q1, .int .i64 q2] w' (RetWf t1 q1 q2 w')) := fun _ _ w' h1 k1 => specWeakFormula_any 0 t1 _ _ q1 q2 w' I1.out h1 k1
 have HIMPL : Hid (∀ (a1 b1 : Value) (w' : World), SliceK 1 encS 0 w' a1 t1.labels → SliceK 3 encE 0 w' b1 t1.edges → Glob w' → Calls Tryz.prog 15 #[.agg #[.int .i64 t1.states, .int .i64 t1.initial, a1, b1], .int .i64 q1, .int .i64 q2] w' (RetWf t1 q1 q2 w')) := fun _ _ w' h1 k1 hg => implWeakFormula_any 0 t1 _ _ q1 q2 w' J1.out h1 k1 hg
 clear hfit1 hll1 hel1
 go_enter Tryz.func4, Tryz.ntmps4
 go_wp2_with fail
 rw [← HW1.out]
 refine Calls.mono (HC1.out _ (Below.refl _ _)) ?_
 rintro e w2 ⟨rfl, hb2⟩
 have D2 := Lib.hid hb2
 clear hb2 HC1
 rw [← HN0.out]
 obtain ⟨x0, x1, x2, x3⟩ := blk4 (X1.out.below D2.out)
 go_wp2_with fail
 refine Calls.mono (HT1.out _ D2.out) ?_
 rintro e w3 ⟨b31, b32, rfl, hb3, hc3⟩
 have HCC3 := Lib.hid hc3
 have D3 := Lib.hid (D2.out.trans (hb3.mono D2.out.size))
 clear x0 x1 x2 x3 hb3 hc3
 go_wp2_with fail
 refine Calls.mono (HSPEC.out _ _ _ HCC3.out.labels HCC3.out.edges) ?_
 rintro e w4 ⟨hb4, f, code, vS, rfl, hisS, hoS0⟩
 have HIS := Lib.hid hisS
 have HOS0 := Lib.hid hoS0
 have D4 := Lib.hid (D3.out.trans (hb4.mono D3.out.size))
 clear hisS hoS0 HSPEC hb4
 have HWS1 : Hid (W1.heap.size ≤ w4.heap.size) := D4.out.size
 have HSS : Hid (w4.heap.size ≤ w4.heap.size) := ((Below.refl w4.heap.size w4)).size
 obtain ⟨x0, x1, x2, x3⟩ := blk4 (X1.out.below D4.out)
 go_wp2_with fail
 refine Calls.mono (HT1.out _ D4.out) ?_
 rintro e w5 ⟨p11, p12, rfl, hb5, hc5⟩
 have CP1 := Lib.hid hc5
 have HBS1 : Hid (w4.heap.size ≤ w4.heap.size) := ((Below.refl w4.heap.size w4)).size
 have D5 := Lib.hid (D4.out.trans (hb5.mono D4.out.size))
 have E5 := Lib.hid hb5
 clear x0 x1 x2 x3 hb5 hc5
 obtain ⟨w6, hw6⟩ : ∃ w6, w6 = w5.alloc (.cells #[.int .i64 t1.states, .int .i64 t1.initial, .slice (some ⟨p11, 0, none⟩) t1.labels.length t1.labels.length, .slice (some ⟨p12, 0, none⟩) t1.edges.length t1.edges.length] 32) := ⟨_, rfl⟩
 have hb6 : Below w5.heap.size w5 w6 := by rw [hw6]; exact boxNew _ _ _
 obtain ⟨kx1, hkx1⟩ : ∃ kx1, kx1 = w5.heap.size := ⟨_, rfl⟩
 have XC1 : Hid (Blk w6 kx1 [.int .i64 t1.states, .int .i64 t1.initial, .slice (some ⟨p11, 0, none⟩) t1.labels.length t1.labels.length, .slice (some ⟨p12, 0, none⟩) t1.edges.length t1.edges.length] 32) := by unfold Hid; rw [hw6, hkx1]; exact Blk.new _ _ _
 have CQ1 := Lib.hid (CP1.out.below hb6)
 have HKX1 := Lib.hid hkx1
 have HW6 := Lib.hid hw6
 have hb61 : p12 < kx1 := by rw [hkx1]; exact CP1.out.h3
 have HB61 := Lib.hid hb61
 have HZX1 : Hid (w6.heap.size = kx1 + 1) := by unfold Hid; rw [hw6, hkx1]; simp
 have HBX1 : Hid (w4.heap.size ≤ kx1) := by unfold Hid; rw [hkx1]; exact (show w4.heap.size ≤ w5.heap.size from (by have := CP1.out.h1; have := CP1.out.h2; have := CP1.out.h3; omega))
 have D6 := Lib.hid (D5.out.trans (hb6.mono D5.out.size))
 have E6 := Lib.hid (E5.out.trans (hb6.mono E5.out.size))
 clear hb6 hw6 hkx1 hb61
 have HWI1 : Hid (kx1 + 1 ≤ w6.heap.size) := by have := ((Below.refl w6.heap.size w6)).size; have := HZX1.out; unfold Hid; omega
 have HWIS : Hid (w4.heap.size ≤ w6.heap.size) := (E6.out).size
 obtain ⟨x0, x1, x2, x3⟩ := blk4 (XC1.out.below (Below.refl w6.heap.size w6))
 have hlt1 := (XC1.out.below (Below.refl w6.heap.size w6)).lt
 have HGO := Lib.hid (HIMPL.out _ _ _ (CQ1.out.below (Below.refl w6.heap.size w6)).labels (CQ1.out.below (Below.refl w6.heap.size w6)).edges (HG.out.below D6.out))
 go_wp2_with fail
 rw [← HW6.out, ← HKX1.out]
 refine Calls.mono HGO.out ?_
 rintro e w7 ⟨hb7, fg, codeg, vG, rfl, hisG, hoG0⟩
 obtain ⟨hq0, hq1⟩ := HIS.out.unique hisG
 subst hq0 hq1
 have HOG0 := Lib.hid hoG0
 have D7 := Lib.hid (D6.out.trans (hb7.mono D6.out.size))
 have E7 := Lib.hid (E6.out.trans (hb7.mono E6.out.size))
 have P17 := Lib.hid hb7
 have I7 := Lib.hid hb7
 clear hisG hb7 HGO hoG0 x0 x1 x2 x3 hlt1
 go_wp2_with fail
 refine (eqNodeS_same _ _ _ _ f _ ((HOG0.out.below (Below.refl w7.heap.size w7)).at) ((HOS0.out.below E7.out).at)).mono ?_
 rintro e w8 ⟨rfl, hb8⟩
 have D8 := Lib.hid (D7.out.trans (hb8.mono D7.out.size))
 have E8 := Lib.hid (E7.out.trans (hb8.mono E7.out.size))
 have P18 := Lib.hid (P17.out.trans (hb8.mono P17.out.size))
 have I8 := Lib.hid (I7.out.trans (hb8.mono I7.out.size))
 have G8 := Lib.hid hb8
 clear hb8
 go_wp2_with fail
 have hDd : Below W1.heap.size W1 w8.drew := D8.out.drew
 have hPd := (P18.out).drew
 have G0 : Hid (w8.cell? ⟨kx1, 0, none⟩ = some (.int .i64 t1.states) ∧ w8.cell? ⟨kx1, 1, none⟩ = some (.int .i64 t1.initial) ∧ w8.cell? ⟨kx1, 2, none⟩ = some (.slice (some ⟨p11, 0, none⟩) t1.labels.length t1.labels.length) ∧ w8.cell? ⟨kx1, 3, none⟩ = some (.slice (some ⟨p12, 0, none⟩) t1.edges.length t1.edges.length) ∧ w8.cell? ⟨n0, 0, none⟩ = some (.int .i64 t1.states) ∧ w8.cell? ⟨n0, 1, none⟩ = some (.int .i64 t1.initial) ∧ w8.cell? ⟨n0, 2, none⟩ = some (l1) ∧ w8.cell? ⟨n0, 3, none⟩ = some (e1)) := ⟨(XC1.out.below P18.out).cell 0 rfl, (XC1.out.below P18.out).cell 1 rfl, (XC1.out.below P18.out).cell 2 rfl, (XC1.out.below P18.out).cell 3 rfl, (X1.out.below D8.out).cell 0 rfl, (X1.out.below D8.out).cell 1 rfl, (X1.out.below D8.out).cell 2 rfl, (X1.out.below D8.out).cell 3 rfl⟩
 have G1 : Hid (w8.drew.cell? ⟨kx1, 0, none⟩ = some (.int .i64 t1.states) ∧ w8.drew.cell? ⟨kx1, 1, none⟩ = some (.int .i64 t1.initial) ∧ w8.drew.cell? ⟨kx1, 2, none⟩ = some (.slice (some ⟨p11, 0, none⟩) t1.labels.length t1.labels.length) ∧ w8.drew.cell? ⟨kx1, 3, none⟩ = some (.slice (some ⟨p12, 0, none⟩) t1.edges.length t1.edges.length) ∧ w8.drew.cell? ⟨n0, 0, none⟩ = some (.int .i64 t1.states) ∧ w8.drew.cell? ⟨n0, 1, none⟩ = some (.int .i64 t1.initial) ∧ w8.drew.cell? ⟨n0, 2, none⟩ = some (l1) ∧ w8.drew.cell? ⟨n0, 3, none⟩ = some (e1)) := ⟨(XC1.out.below hPd).cell 0 rfl, (XC1.out.below hPd).cell 1 rfl, (XC1.out.below hPd).cell 2 rfl, (XC1.out.below hPd).cell 3 rfl, (X1.out.below hDd).cell 0 rfl, (X1.out.below hDd).cell 1 rfl, (X1.out.below hDd).cell 2 rfl, (X1.out.below hDd).cell 3 rfl⟩
 go_region_held3 (fun w' => w'.cell? ⟨kx1, 0, none⟩ = some (.int .i64 t1.states) ∧ w'.cell? ⟨kx1, 1, none⟩ = some (.int .i64 t1.initial) ∧ w'.cell? ⟨kx1, 2, none⟩ = some (.slice (some ⟨p11, 0, none⟩) t1.labels.length t1.labels.length) ∧ w'.cell? ⟨kx1, 3, none⟩ = some (.slice (some ⟨p12, 0, none⟩) t1.edges.length t1.edges.length) ∧ w'.cell? ⟨n0, 0, none⟩ = some (.int .i64 t1.states) ∧ w'.cell? ⟨n0, 1, none⟩ = some (.int .i64 t1.initial) ∧ w'.cell? ⟨n0, 2, none⟩ = some (l1) ∧ w'.cell? ⟨n0, 3, none⟩ = some (e1))
  (first | exact G0.out | exact G1.out | exact G2.out | exact G3.out | go_keep)
  (first
   | (go_at_call 7; refine Calls.mono (HT1.out _ hDd) ?_; rintro e w9 ⟨b91, b92, rfl, hb9, hc9⟩; have hD2 := hDd.trans (hb9.mono hDd.size); have hP2 := hPd.trans (hb9.mono hPd.size); have G2 : Hid (w9.cell? ⟨kx1, 0, none⟩ = some (.int .i64 t1.states) ∧ w9.cell? ⟨kx1, 1, none⟩ = some (.int .i64 t1.initial) ∧ w9.cell? ⟨kx1, 2, none⟩ = some (.slice (some ⟨p11, 0, none⟩) t1.labels.length t1.labels.length) ∧ w9.cell? ⟨kx1, 3, none⟩ = some (.slice (some ⟨p12, 0, none⟩) t1.edges.length t1.edges.length) ∧ w9.cell? ⟨n0, 0, none⟩ = some (.int .i64 t1.states) ∧ w9.cell? ⟨n0, 1, none⟩ = some (.int .i64 t1.initial) ∧ w9.cell? ⟨n0, 2, none⟩ = some (l1) ∧ w9.cell? ⟨n0, 3, none⟩ = some (e1)) := ⟨(XC1.out.below hP2).cell 0 rfl, (XC1.out.below hP2).cell 1 rfl, (XC1.out.below hP2).cell 2 rfl, (XC1.out.below hP2).cell 3 rfl, (X1.out.below hD2).cell 0 rfl, (X1.out.below hD2).cell 1 rfl, (X1.out.below hD2).cell 2 rfl, (X1.out.below hD2).cell 3 rfl⟩)
   | (go_at_call 10; refine (eqLts_same _ _ 0 0 t1 _ (CQ1.out.below hP2).at hc9.at).mono ?_; rintro e w10 ⟨rfl, hb10⟩; have hD3 := hD2.trans (hb10.mono hD2.size); have hP3 := hP2.trans (hb10.mono hP2.size); have G3 : Hid (w10.cell? ⟨kx1, 0, none⟩ = some (.int .i64 t1.states) ∧ w10.cell? ⟨kx1, 1, none⟩ = some (.int .i64 t1.initial) ∧ w10.cell? ⟨kx1, 2, none⟩ = some (.slice (some ⟨p11, 0, none⟩) t1.labels.length t1.labels.length) ∧ w10.cell? ⟨kx1, 3, none⟩ = some (.slice (some ⟨p12, 0, none⟩) t1.edges.length t1.edges.length) ∧ w10.cell? ⟨n0, 0, none⟩ = some (.int .i64 t1.states) ∧ w10.cell? ⟨n0, 1, none⟩ = some (.int .i64 t1.initial) ∧ w10.cell? ⟨n0, 2, none⟩ = some (l1) ∧ w10.cell? ⟨n0, 3, none⟩ = some (e1)) := ⟨(XC1.out.below hP3).cell 0 rfl, (XC1.out.below hP3).cell 1 rfl, (XC1.out.below hP3).cell 2 rfl, (XC1.out.below hP3).cell 3 rfl, (X1.out.below hD3).cell 0 rfl, (X1.out.below hD3).cell 1 rfl, (X1.out.below hD3).cell 2 rfl, (X1.out.below hD3).cell 3 rfl⟩))
 have hall10 : Below w8.heap.size w8 w10 := (((Below.refl w8.heap.size w8).drew).trans (hb9.mono (by simp))).trans (hb10.mono (Nat.le_trans (by simp) hb9.size))
 have D10 := Lib.hid (D8.out.trans (hall10.mono D8.out.size))
 have E10 := Lib.hid (E8.out.trans (hall10.mono E8.out.size))
 have P110 := Lib.hid (P18.out.trans (hall10.mono P18.out.size))
 have I10 := Lib.hid (I8.out.trans (hall10.mono I8.out.size))
 have G10 := Lib.hid (G8.out.trans (hall10.mono G8.out.size))
 clear hDd hPd hD2 hP2 hD3 hP3 G0 G1 G2 G3 hall10 hb9 hc9 hb10
 have HWIc : Hid (w6.heap.size ≤ w10.heap.size) := (I10.out).size
 have hcq := CQ1.out.below P110.out
 have hln := HLN1.out
 have hb6 := HB61.out
 have hbx := HBX1.out
 have hkl := (XC1.out.below P110.out).lt
 obtain ⟨N1, hN1⟩ : ∃ N : Int, N = 1 + (t1.labels.length : Int) + 3 * (t1.edges.length : Int) := ⟨_, rfl⟩
 have hNz1 : 0 ≤ N1 := by omega
 have hNb1 : N1 ≤ 5000000 := by omega
 have HM := Lib.hid (markLts_any w4.heap.size kx1 p11 p12 t1.labels.length t1.edges.length t1.states t1.initial _ _ 1 w10 (by decide) (by omega) hcq.h1 (by have := hcq.h2; omega) (by have := hcq.h1; have := hcq.h2; omega) hb6 (by omega) (by have := hcq.h2; omega) hcq.o1 (own_lower hcq.o2 (by have := hcq.h1; have := hcq.h2; omega)))
 rw [← hN1] at HM
 have HN1 := Lib.hid hN1
 have hlow := hcq.h1
 have HLW : Hid (w4.heap.size ≤ w10.heap.size) := by unfold Hid; omega
 obtain ⟨x0, x1, x2, x3⟩ := blk4 (XC1.out.below P110.out)
 clear hcq hln hb6 hbx hlow hN1
 go_wp2_with fail
 refine Calls.mono HM.out ?_
 rintro e w11 ⟨rfl, ht11⟩
 have hb11 : Below w4.heap.size w10 w11 := below_turns ht11 HLW.out
 have D11 := Lib.hid (D10.out.trans (hb11.mono (show W1.heap.size ≤ w4.heap.size from by have := HWS1.out; have := HBS1.out; omega)))
 have E11 := Lib.hid ((E10.out).trans (hb11.mono (show w4.heap.size ≤ w4.heap.size from by have := HBS1.out; have := HSS.out; omega)))
 have HOGx0 := Lib.hid ((HOG0.out.below G10.out).turns ht11 (show kx1 ≤ w6.heap.size from by have := HZX1.out; have := HWI1.out; omega))
 clear HOG0
 have HOG0 := HOGx0
 clear HOGx0
 have HWM11 : Hid (w6.heap.size ≤ w11.heap.size) := by have := HWIc.out; have := ht11.size; unfold Hid; omega
 clear HWIc
 have HWIc := HWM11
 clear HWM11
 clear x0 x1 x2 x3 hkl HM HLW hb11 ht11
 go_wp2_with fail
 refine (eqNodeS_same _ _ _ _ f _ ((HOG0.out.below (Below.refl w11.heap.size w11)).at) ((HOS0.out.below E11.out).at)).mono ?_
 rintro e w12 ⟨rfl, hb12⟩
 have D12 := Lib.hid (D11.out.trans (hb12.mono D11.out.size))
 have E12 := Lib.hid (E11.out.trans (hb12.mono E11.out.size))
 have G12 := Lib.hid hb12
 clear hb12
 have hwI : w6.heap.size ≤ w12.heap.size := by have := HWIc.out; have := (G12.out).size; omega
 have hfew := HIS.out.few
 obtain ⟨Z0, hZ0⟩ : ∃ Z : Int, Z = 1 + (4 * (f.length : Int)) := ⟨_, rfl⟩
 have hZz0 : 0 ≤ Z0 ∧ Z0 ≤ 10000000 := by omega
 have HMK := Lib.hid (markForm_is w6.heap.size _ f 1 _ (by decide) (by omega) hwI (HOG0.out.below G12.out))
 rw [← hZ0] at HMK
 have HZZ0 := Lib.hid hZ0
 clear hZ0
 go_wp2_with fail
 refine Calls.mono HMK.out ?_
 rintro e w13 ⟨rfl, hb13, hom, hon⟩
 have HOM := Lib.hid hom
 have HON := Lib.hid hon
 have D13 := Lib.hid (D12.out.trans (hb13.mono (show W1.heap.size ≤ w6.heap.size from by have := HWS1.out; have := HWIS.out; omega)))
 have E13 := Lib.hid ((E12.out).trans (hb13.mono (show w4.heap.size ≤ w6.heap.size from by have := HWIS.out; have := HSS.out; omega)))
 clear HOG0
 have HOG0 := HOM
 clear HOM
 have hwI' : w6.heap.size ≤ w13.heap.size := Nat.le_trans hwI hb13.size
 clear hwI hb13 hom hon HON HMK
 have hwI := hwI'
 clear hwI'
 have HHE := Lib.hid (heldForm_is w6.heap.size _ f 1 _ (by decide) (by have := HZZ0.out; have := hZz0; omega) (HOG0.out.below (Below.refl w13.heap.size w13)))
 rw [← HZZ0.out] at HHE
 go_wp2_with fail
 refine Calls.mono HHE.out ?_
 rintro e w14 ⟨rfl, hb14⟩
 have D14 := Lib.hid (D13.out.trans (hb14.mono D13.out.size))
 have E14 := Lib.hid (E13.out.trans (hb14.mono E13.out.size))
 have G14 := Lib.hid hb14
 clear hb14 HHE
 obtain ⟨x0, x1, x2, x3⟩ := blk4 (X1.out.below D14.out)
 go_wp2_with fail
 refine Calls.mono (HT1.out _ D14.out) ?_
 rintro e w15 ⟨b151, b152, rfl, hb15, hc15⟩
 have HCC15 := Lib.hid hc15
 have D15 := Lib.hid (D14.out.trans (hb15.mono D14.out.size))
 have E15 := Lib.hid (E14.out.trans (hb15.mono E14.out.size))
 have G15 := Lib.hid (G14.out.trans (hb15.mono G14.out.size))
 clear x0 x1 x2 x3 hb15 hc15
 go_wp2_with fail
 refine Calls.mono (HIMPL.out _ _ _ HCC15.out.labels HCC15.out.edges (HG.out.below D15.out)) ?_
 rintro e w16 ⟨hb16, fh, codeh, vH, rfl, hisH, hoH0⟩
 obtain ⟨hq0, hq1⟩ := HIS.out.unique hisH
 subst hq0 hq1
 have HOH0 := Lib.hid hoH0
 have D16 := Lib.hid (D15.out.trans (hb16.mono D15.out.size))
 have E16 := Lib.hid (E15.out.trans (hb16.mono E15.out.size))
 have G16 := Lib.hid (G15.out.trans (hb16.mono G15.out.size))
 clear hisH hoH0 hb16
 go_wp2_with fail
 refine (eqNodeS_same _ _ _ _ f _ ((HOH0.out.below (Below.refl w16.heap.size w16)).at) ((HOS0.out.below E16.out).at)).mono ?_
 rintro e w17 ⟨rfl, hb17⟩
 have D17 := Lib.hid (D16.out.trans (hb17.mono D16.out.size))
 have E17 := Lib.hid (E16.out.trans (hb17.mono E16.out.size))
 have G17 := Lib.hid (G16.out.trans (hb17.mono G16.out.size))
 have H17 := Lib.hid hb17
 clear hb17
 have HHE := Lib.hid (heldForm_is w6.heap.size _ f 1 _ (by decide) (by have := HZZ0.out; have := hZz0; omega) (HOG0.out.below G17.out))
 rw [← HZZ0.out] at HHE
 go_wp2_with fail
 refine Calls.mono HHE.out ?_
 rintro e w18 ⟨rfl, hb18⟩
 have D18 := Lib.hid (D17.out.trans (hb18.mono D17.out.size))
 have E18 := Lib.hid (E17.out.trans (hb18.mono E17.out.size))
 have G18 := Lib.hid (G17.out.trans (hb18.mono G17.out.size))
 have H18 := Lib.hid (H17.out.trans (hb18.mono H17.out.size))
 clear hb18 HHE
 go_wp2_with fail
 go_ret
 exact ⟨rfl, HB1.out.trans (D18.out.mono HB1.out.size)⟩

end Go.Proofs.YtjoacldbgnphkaaGreatDoor
