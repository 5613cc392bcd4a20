/-
  For all arguments the law FnExactPruneBrothers answers true: the walk that joins both sides.
-/
import Derived.Test.YtbjbjbnbapeajaaGreatDoorP10
import Derived.Test.YtbjbjbnbapeajaaGreatDoorP12
import Derived.Test.YtbjbjbnbapeajaaGreatDoorP13
import Derived.Deep.RegionHeld3
namespace Go.Proofs.YtbjbjbnbapeajaaGreatDoor
open Go Go.RowKit

set_option maxRecDepth 100000 in
set_option maxHeartbeats 4000000 in
theorem lawPruneBrothers (lo : Nat) (t1 : Lts) (l1 e1 : Value) (w : World) (hs1 : SliceK 1 encS lo w l1 t1.labels) (he1 : SliceK 3 encE lo w e1 t1.edges) (hk1 : StrsOk t1.labels) (g : Glob w) :
  Calls Tryz.prog 3 #[.agg #[.int .i64 t1.states, .int .i64 t1.initial, l1, e1]] w fun e w' => e = .returned (.bool true) ∧ Below w.heap.size w w' := by
 obtain ⟨n0, hn0⟩ : ∃ n0, n0 = w.heap.size := ⟨_, rfl⟩
 obtain ⟨W1, hW1⟩ : ∃ W1, W1 = (w.alloc (.cells #[.int .i64 t1.states, .int .i64 t1.initial, l1, e1] 25)) := ⟨_, rfl⟩
 have hB1 : Below w.heap.size w W1 := by rw [hW1]; exact ((Below.refl _ _).alloc (by simp) _)
 have hX1 : Blk W1 (n0) [.int .i64 t1.states, .int .i64 t1.initial, l1, e1] 25 := by
  have h := Blk.new w [.int .i64 t1.states, .int .i64 t1.initial, l1, e1] 25
  rw [← hn0] at h
  rw [hW1]
  exact h
 have HS1 := Lib.hid (hs1.below hB1)
 have HE1 := Lib.hid (he1.below hB1)
 have K1 := Lib.hid hk1
 have X1 := Lib.hid hX1
 have HG := Lib.hid (g.below hB1)
 have HB1 := Lib.hid hB1
 have HW1 := Lib.hid hW1
 have HN0 := Lib.hid hn0
 clear g hB1 hW1 hn0 hs1 he1 hk1 hX1
 have HC1 := Lib.hid (fun w' (hb : Below W1.heap.size W1 w') => szLts_any (.agg #[.int .i64 t1.states, .int .i64 t1.initial, l1, e1]) lo t1 1048576 w' (by decide) (by decide) K1.out ⟨l1, e1, rfl, HS1.out.below hb, HE1.out.below hb⟩)
 by_cases c1 : szL t1 1048576 < 0
 ·clear HG 
  go_enter Tryz.func3, Tryz.ntmps3
  go_wp2_with fail
  rw [← HW1.out]
  refine Calls.mono (HC1.out _ (Below.refl _ _)) ?_
  rintro e y1 ⟨rfl, hb1⟩
  have D1 := Lib.hid hb1
  clear hb1
  go_wp2_with fail
  go_ret
  exact ⟨rfl, HB1.out.trans (D1.out.mono HB1.out.size)⟩
 have hfit1 := szL_fit (t := t1) (left := 1048576) (by decide) (by omega)
 obtain ⟨M1, hM1⟩ : ∃ M1, M1 = szL t1 1048576 := ⟨_, rfl⟩
 rw [← hM1] at c1 hfit1 HC1
 have HMM1 := Lib.hid hM1
 clear hM1
 have hLz1 : 0 ≤ M1 := by omega
 have hLe1 : M1 ≤ 1048576 := by omega
 have hll1 : t1.labels.length ≤ 1048576 := by omega
 have hel1 : t1.edges.length ≤ 1048576 := by omega
 have J1 : Hid (Short20 t1.labels) := fun i hi => by have := hfit1.2.2.1 _ (List.getElem_mem hi); omega
 have I1 : Hid (Short t1.labels) := fun i hi => Nat.le_trans (J1.out i hi) (by decide)
 have HT1 : Hid (∀ w', Below W1.heap.size W1 w' → Calls Tryz.prog 7 #[.agg #[.int .i64 t1.states, .int .i64 t1.initial, l1, e1]] w' (CopyMade t1 w')) := fun w' hb => copy_any lo t1 _ _ w' hll1 hel1 (HS1.out.below hb) (HE1.out.below hb)
 have HLN1 : Hid (t1.labels.length ≤ 1048576 ∧ t1.edges.length ≤ 1048576) := ⟨hll1, hel1⟩
 have HSPEC : Hid (∀ (a1 b1 : Value) (w' : World), SliceK 1 encS 0 w' a1 t1.labels → SliceK 3 encE 0 w' b1 t1.edges → Calls Tryz.prog 6 #[.agg #[.int .i64 t1.states, .int .i64 t1.initial, a1, b1]] w' (RetPb t1 w')) := fun _ _ w' h1 k1 => specPruneBrothers_any 0 t1 _ _ w' I1.out h1 k1
 have HIMPL : Hid (∀ (a1 b1 : Value) (w' : World), SliceK 1 encS 0 w' a1 t1.labels → SliceK 3 encE 0 w' b1 t1.edges → Glob w' → Calls Tryz.prog 8 #[.agg #[.int .i64 t1.states, .int .i64 t1.initial, a1, b1]] w' (RetPb t1 w')) := fun _ _ w' h1 k1 hg => implPruneBrothers_any 0 t1 _ _ w' J1.out h1 k1 hg
 clear hfit1 hll1 hel1
 go_enter Tryz.func3, Tryz.ntmps3
 go_wp2_with fail
 rw [← HW1.out]
 refine Calls.mono (HC1.out _ (Below.refl _ _)) ?_
 rintro e w2 ⟨rfl, hb2⟩
 have D2 := Lib.hid hb2
 clear hb2 HC1
 rw [← HN0.out]
 obtain ⟨x0, x1, x2, x3⟩ := blk4 (X1.out.below D2.out)
 go_wp2_with fail
 refine Calls.mono (HT1.out _ D2.out) ?_
 rintro e w3 ⟨b31, b32, rfl, hb3, hc3⟩
 have HCC3 := Lib.hid hc3
 have D3 := Lib.hid (D2.out.trans (hb3.mono D2.out.size))
 clear x0 x1 x2 x3 hb3 hc3
 go_wp2_with fail
 refine Calls.mono (HSPEC.out _ _ _ HCC3.out.labels HCC3.out.edges) ?_
 rintro e w4 ⟨hb4, d, code, lvS, evS, rfl, hisS, hoS0⟩
 have HIS := Lib.hid hisS
 have HOS0 := Lib.hid hoS0
 have D4 := Lib.hid (D3.out.trans (hb4.mono D3.out.size))
 clear hisS hoS0 HSPEC hb4
 obtain ⟨alvS, clvS, rfl, -, -⟩ := owns_slice HOS0.out.1
 obtain ⟨aevS, cevS, rfl, -, -⟩ := owns_slice HOS0.out.2
 obtain ⟨w5, hw5⟩ : ∃ w5, w5 = w4.alloc (.cells #[.int .i64 d.states, .int .i64 d.initial, .slice alvS d.labels.length clvS, .slice aevS d.edges.length cevS] 29) := ⟨_, rfl⟩
 have hb5 : Below w4.heap.size w4 w5 := by rw [hw5]; exact boxNew _ _ _
 obtain ⟨kS, hkS⟩ : ∃ kS, kS = w4.heap.size := ⟨_, rfl⟩
 have XS : Hid (Blk w5 kS [.int .i64 d.states, .int .i64 d.initial, .slice alvS d.labels.length clvS, .slice aevS d.edges.length cevS] 29) := by unfold Hid; rw [hw5, hkS]; exact Blk.new _ _ _
 have HKS := Lib.hid hkS
 have HW5 := Lib.hid hw5
 have hzS : w5.heap.size = kS + 1 := by rw [hw5, hkS]; simp
 have HZS := Lib.hid hzS
 have D5 := Lib.hid (D4.out.trans (hb5.mono D4.out.size))
 have E5 := Lib.hid hb5
 clear hb5 hw5 hkS hzS
 have HWS1 : Hid (W1.heap.size ≤ w5.heap.size) := D5.out.size
 have HSS : Hid (w4.heap.size ≤ w5.heap.size) := (E5.out).size
 obtain ⟨x0, x1, x2, x3⟩ := blk4 (X1.out.below D5.out)
 rw [HW5.out] at x0 x1 x2 x3
 go_wp2_with fail
 rw [← HW5.out, ← HKS.out]
 refine Calls.mono (HT1.out _ D5.out) ?_
 rintro e w6 ⟨p11, p12, rfl, hb6, hc6⟩
 have CP1 := Lib.hid hc6
 have HBS1 : Hid (w5.heap.size ≤ w5.heap.size) := ((Below.refl w5.heap.size w5)).size
 have D6 := Lib.hid (D5.out.trans (hb6.mono D5.out.size))
 have E6 := Lib.hid (E5.out.trans (hb6.mono E5.out.size))
 have Y6 := Lib.hid hb6
 clear x0 x1 x2 x3 hb6 hc6
 obtain ⟨w7, hw7⟩ : ∃ w7, w7 = w6.alloc (.cells #[.int .i64 t1.states, .int .i64 t1.initial, .slice (some ⟨p11, 0, none⟩) t1.labels.length t1.labels.length, .slice (some ⟨p12, 0, none⟩) t1.edges.length t1.edges.length] 29) := ⟨_, rfl⟩
 have hb7 : Below w6.heap.size w6 w7 := by rw [hw7]; exact boxNew _ _ _
 obtain ⟨kx1, hkx1⟩ : ∃ kx1, kx1 = w6.heap.size := ⟨_, rfl⟩
 have XC1 : Hid (Blk w7 kx1 [.int .i64 t1.states, .int .i64 t1.initial, .slice (some ⟨p11, 0, none⟩) t1.labels.length t1.labels.length, .slice (some ⟨p12, 0, none⟩) t1.edges.length t1.edges.length] 29) := by unfold Hid; rw [hw7, hkx1]; exact Blk.new _ _ _
 have CQ1 := Lib.hid (CP1.out.below hb7)
 have HKX1 := Lib.hid hkx1
 have HW7 := Lib.hid hw7
 have hb61 : p12 < kx1 := by rw [hkx1]; exact CP1.out.h3
 have HB61 := Lib.hid hb61
 have HZX1 : Hid (w7.heap.size = kx1 + 1) := by unfold Hid; rw [hw7, hkx1]; simp
 have HBX1 : Hid (w5.heap.size ≤ kx1) := by unfold Hid; rw [hkx1]; exact (show w5.heap.size ≤ w6.heap.size from (by have := CP1.out.h1; have := CP1.out.h2; have := CP1.out.h3; omega))
 have D7 := Lib.hid (D6.out.trans (hb7.mono D6.out.size))
 have E7 := Lib.hid (E6.out.trans (hb7.mono E6.out.size))
 have Y7 := Lib.hid (Y6.out.trans (hb7.mono Y6.out.size))
 clear hb7 hw7 hkx1 hb61
 have HWI1 : Hid (kx1 + 1 ≤ w7.heap.size) := by have := ((Below.refl w7.heap.size w7)).size; have := HZX1.out; unfold Hid; omega
 have HWIS : Hid (w5.heap.size ≤ w7.heap.size) := (Y7.out).size
 obtain ⟨x0, x1, x2, x3⟩ := blk4 (XC1.out.below (Below.refl w7.heap.size w7))
 have hlt1 := (XC1.out.below (Below.refl w7.heap.size w7)).lt
 have HGO := Lib.hid (HIMPL.out _ _ _ (CQ1.out.below (Below.refl w7.heap.size w7)).labels (CQ1.out.below (Below.refl w7.heap.size w7)).edges (HG.out.below D7.out))
 go_wp2_with fail
 rw [← HW7.out, ← HKX1.out]
 refine Calls.mono HGO.out ?_
 rintro e w8 ⟨hb8, dg, codeg, lvG, evG, rfl, hisG, hoG0⟩
 obtain ⟨hq0, hq1⟩ := HIS.out.unique hisG
 subst hq0 hq1
 have HOG0 := Lib.hid hoG0
 have D8 := Lib.hid (D7.out.trans (hb8.mono D7.out.size))
 have E8 := Lib.hid (E7.out.trans (hb8.mono E7.out.size))
 have Y8 := Lib.hid (Y7.out.trans (hb8.mono Y7.out.size))
 have P18 := Lib.hid hb8
 have I8 := Lib.hid hb8
 clear hisG hb8 HGO hoG0 x0 x1 x2 x3 hlt1
 obtain ⟨alvG, clvG, rfl, -, -⟩ := owns_slice HOG0.out.1
 obtain ⟨aevG, cevG, rfl, -, -⟩ := owns_slice HOG0.out.2
 have HKGI : Hid (w7.heap.size ≤ w8.heap.size) := (I8.out).size
 obtain ⟨w9, hw9⟩ : ∃ w9, w9 = w8.alloc (.cells #[.int .i64 d.states, .int .i64 d.initial, .slice alvG d.labels.length clvG, .slice aevG d.edges.length cevG] 29) := ⟨_, rfl⟩
 have hb9 : Below w8.heap.size w8 w9 := by rw [hw9]; exact boxNew _ _ _
 obtain ⟨kG, hkG⟩ : ∃ kG, kG = w8.heap.size := ⟨_, rfl⟩
 have XG : Hid (Blk w9 kG [.int .i64 d.states, .int .i64 d.initial, .slice alvG d.labels.length clvG, .slice aevG d.edges.length cevG] 29) := by unfold Hid; rw [hw9, hkG]; exact Blk.new _ _ _
 have HKG := Lib.hid hkG
 have HW9 := Lib.hid hw9
 have hzG : w9.heap.size = kG + 1 := by rw [hw9, hkG]; simp
 have HZG := Lib.hid hzG
 have D9 := Lib.hid (D8.out.trans (hb9.mono D8.out.size))
 have E9 := Lib.hid (E8.out.trans (hb9.mono E8.out.size))
 have Y9 := Lib.hid (Y8.out.trans (hb9.mono Y8.out.size))
 have P19 := Lib.hid (P18.out.trans (hb9.mono P18.out.size))
 have I9 := Lib.hid (I8.out.trans (hb9.mono I8.out.size))
 have G9 := Lib.hid hb9
 clear hb9 hw9 hkG hzG
 rw [← HKG.out] at HKGI
 obtain ⟨u0, u1, u2, u3⟩ := blk4 (XG.out.below (Below.refl w9.heap.size w9))
 obtain ⟨v0, v1, v2, v3⟩ := blk4 (XS.out.below Y9.out)
 have hltu := (XG.out.below (Below.refl w9.heap.size w9)).lt
 have hltv := (XS.out.below Y9.out).lt
 rw [HW9.out] at v0 v1 v2 v3
 go_wp2_with fail
 rw [← HW9.out, ← HKG.out]
 refine (eqLts_same _ _ _ _ d _ ((HOG0.out.below G9.out).at) ((HOS0.out.below E9.out).at)).mono ?_
 rintro e w10 ⟨rfl, hb10⟩
 have D10 := Lib.hid (D9.out.trans (hb10.mono D9.out.size))
 have E10 := Lib.hid (E9.out.trans (hb10.mono E9.out.size))
 have Y10 := Lib.hid (Y9.out.trans (hb10.mono Y9.out.size))
 have P110 := Lib.hid (P19.out.trans (hb10.mono P19.out.size))
 have I10 := Lib.hid (I9.out.trans (hb10.mono I9.out.size))
 have G10 := Lib.hid (G9.out.trans (hb10.mono G9.out.size))
 have Q10 := Lib.hid hb10
 clear hb10 u0 u1 u2 u3 v0 v1 v2 v3 hltu hltv
 go_wp2_with fail
 have hDd : Below W1.heap.size W1 w10.drew := D10.out.drew
 have hPd := (P110.out).drew
 have G0 : Hid (w10.cell? ⟨kx1, 0, none⟩ = some (.int .i64 t1.states) ∧ w10.cell? ⟨kx1, 1, none⟩ = some (.int .i64 t1.initial) ∧ w10.cell? ⟨kx1, 2, none⟩ = some (.slice (some ⟨p11, 0, none⟩) t1.labels.length t1.labels.length) ∧ w10.cell? ⟨kx1, 3, none⟩ = some (.slice (some ⟨p12, 0, none⟩) t1.edges.length t1.edges.length) ∧ w10.cell? ⟨n0, 0, none⟩ = some (.int .i64 t1.states) ∧ w10.cell? ⟨n0, 1, none⟩ = some (.int .i64 t1.initial) ∧ w10.cell? ⟨n0, 2, none⟩ = some (l1) ∧ w10.cell? ⟨n0, 3, none⟩ = some (e1)) := ⟨(XC1.out.below P110.out).cell 0 rfl, (XC1.out.below P110.out).cell 1 rfl, (XC1.out.below P110.out).cell 2 rfl, (XC1.out.below P110.out).cell 3 rfl, (X1.out.below D10.out).cell 0 rfl, (X1.out.below D10.out).cell 1 rfl, (X1.out.below D10.out).cell 2 rfl, (X1.out.below D10.out).cell 3 rfl⟩
 have G1 : Hid (w10.drew.cell? ⟨kx1, 0, none⟩ = some (.int .i64 t1.states) ∧ w10.drew.cell? ⟨kx1, 1, none⟩ = some (.int .i64 t1.initial) ∧ w10.drew.cell? ⟨kx1, 2, none⟩ = some (.slice (some ⟨p11, 0, none⟩) t1.labels.length t1.labels.length) ∧ w10.drew.cell? ⟨kx1, 3, none⟩ = some (.slice (some ⟨p12, 0, none⟩) t1.edges.length t1.edges.length) ∧ w10.drew.cell? ⟨n0, 0, none⟩ = some (.int .i64 t1.states) ∧ w10.drew.cell? ⟨n0, 1, none⟩ = some (.int .i64 t1.initial) ∧ w10.drew.cell? ⟨n0, 2, none⟩ = some (l1) ∧ w10.drew.cell? ⟨n0, 3, none⟩ = some (e1)) := ⟨(XC1.out.below hPd).cell 0 rfl, (XC1.out.below hPd).cell 1 rfl, (XC1.out.below hPd).cell 2 rfl, (XC1.out.below hPd).cell 3 rfl, (X1.out.below hDd).cell 0 rfl, (X1.out.below hDd).cell 1 rfl, (X1.out.below hDd).cell 2 rfl, (X1.out.below hDd).cell 3 rfl⟩
 go_region_held3 (fun w' => w'.cell? ⟨kx1, 0, none⟩ = some (.int .i64 t1.states) ∧ w'.cell? ⟨kx1, 1, none⟩ = some (.int .i64 t1.initial) ∧ w'.cell? ⟨kx1, 2, none⟩ = some (.slice (some ⟨p11, 0, none⟩) t1.labels.length t1.labels.length) ∧ w'.cell? ⟨kx1, 3, none⟩ = some (.slice (some ⟨p12, 0, none⟩) t1.edges.length t1.edges.length) ∧ w'.cell? ⟨n0, 0, none⟩ = some (.int .i64 t1.states) ∧ w'.cell? ⟨n0, 1, none⟩ = some (.int .i64 t1.initial) ∧ w'.cell? ⟨n0, 2, none⟩ = some (l1) ∧ w'.cell? ⟨n0, 3, none⟩ = some (e1))
  (first | exact G0.out | exact G1.out | exact G2.out | exact G3.out | go_keep)
  (first
   | (go_at_call 7; refine Calls.mono (HT1.out _ hDd) ?_; rintro e w11 ⟨b111, b112, rfl, hb11, hc11⟩; have hD2 := hDd.trans (hb11.mono hDd.size); have hP2 := hPd.trans (hb11.mono hPd.size); have G2 : Hid (w11.cell? ⟨kx1, 0, none⟩ = some (.int .i64 t1.states) ∧ w11.cell? ⟨kx1, 1, none⟩ = some (.int .i64 t1.initial) ∧ w11.cell? ⟨kx1, 2, none⟩ = some (.slice (some ⟨p11, 0, none⟩) t1.labels.length t1.labels.length) ∧ w11.cell? ⟨kx1, 3, none⟩ = some (.slice (some ⟨p12, 0, none⟩) t1.edges.length t1.edges.length) ∧ w11.cell? ⟨n0, 0, none⟩ = some (.int .i64 t1.states) ∧ w11.cell? ⟨n0, 1, none⟩ = some (.int .i64 t1.initial) ∧ w11.cell? ⟨n0, 2, none⟩ = some (l1) ∧ w11.cell? ⟨n0, 3, none⟩ = some (e1)) := ⟨(XC1.out.below hP2).cell 0 rfl, (XC1.out.below hP2).cell 1 rfl, (XC1.out.below hP2).cell 2 rfl, (XC1.out.below hP2).cell 3 rfl, (X1.out.below hD2).cell 0 rfl, (X1.out.below hD2).cell 1 rfl, (X1.out.below hD2).cell 2 rfl, (X1.out.below hD2).cell 3 rfl⟩)
   | (go_at_call 9; refine (eqLts_same _ _ 0 0 t1 _ (CQ1.out.below hP2).at hc11.at).mono ?_; rintro e w12 ⟨rfl, hb12⟩; have hD3 := hD2.trans (hb12.mono hD2.size); have hP3 := hP2.trans (hb12.mono hP2.size); have G3 : Hid (w12.cell? ⟨kx1, 0, none⟩ = some (.int .i64 t1.states) ∧ w12.cell? ⟨kx1, 1, none⟩ = some (.int .i64 t1.initial) ∧ w12.cell? ⟨kx1, 2, none⟩ = some (.slice (some ⟨p11, 0, none⟩) t1.labels.length t1.labels.length) ∧ w12.cell? ⟨kx1, 3, none⟩ = some (.slice (some ⟨p12, 0, none⟩) t1.edges.length t1.edges.length) ∧ w12.cell? ⟨n0, 0, none⟩ = some (.int .i64 t1.states) ∧ w12.cell? ⟨n0, 1, none⟩ = some (.int .i64 t1.initial) ∧ w12.cell? ⟨n0, 2, none⟩ = some (l1) ∧ w12.cell? ⟨n0, 3, none⟩ = some (e1)) := ⟨(XC1.out.below hP3).cell 0 rfl, (XC1.out.below hP3).cell 1 rfl, (XC1.out.below hP3).cell 2 rfl, (XC1.out.below hP3).cell 3 rfl, (X1.out.below hD3).cell 0 rfl, (X1.out.below hD3).cell 1 rfl, (X1.out.below hD3).cell 2 rfl, (X1.out.below hD3).cell 3 rfl⟩))
 have hall12 : Below w10.heap.size w10 w12 := (((Below.refl w10.heap.size w10).drew).trans (hb11.mono (by simp))).trans (hb12.mono (Nat.le_trans (by simp) hb11.size))
 have D12 := Lib.hid (D10.out.trans (hall12.mono D10.out.size))
 have E12 := Lib.hid (E10.out.trans (hall12.mono E10.out.size))
 have Y12 := Lib.hid (Y10.out.trans (hall12.mono Y10.out.size))
 have P112 := Lib.hid (P110.out.trans (hall12.mono P110.out.size))
 have I12 := Lib.hid (I10.out.trans (hall12.mono I10.out.size))
 have G12 := Lib.hid (G10.out.trans (hall12.mono G10.out.size))
 have Q12 := Lib.hid (Q10.out.trans (hall12.mono Q10.out.size))
 clear hDd hPd hD2 hP2 hD3 hP3 G0 G1 G2 G3 hall12 hb11 hc11 hb12
 have HWIc : Hid (w7.heap.size ≤ w12.heap.size) := (I12.out).size
 have hcq := CQ1.out.below P112.out
 have hln := HLN1.out
 have hb6 := HB61.out
 have hbx := HBX1.out
 have hkl := (XC1.out.below P112.out).lt
 obtain ⟨N1, hN1⟩ : ∃ N : Int, N = 1 + (t1.labels.length : Int) + 3 * (t1.edges.length : Int) := ⟨_, rfl⟩
 have hNz1 : 0 ≤ N1 := by omega
 have hNb1 : N1 ≤ 5000000 := by omega
 have HM := Lib.hid (markLts_any w5.heap.size kx1 p11 p12 t1.labels.length t1.edges.length t1.states t1.initial _ _ 1 w12 (by decide) (by omega) hcq.h1 (by have := hcq.h2; omega) (by have := hcq.h1; have := hcq.h2; omega) hb6 (by omega) (by have := hcq.h2; omega) hcq.o1 (own_lower hcq.o2 (by have := hcq.h1; have := hcq.h2; omega)))
 rw [← hN1] at HM
 have HN1 := Lib.hid hN1
 have hlow := hcq.h1
 have HLW : Hid (w5.heap.size ≤ w12.heap.size) := by unfold Hid; omega
 obtain ⟨x0, x1, x2, x3⟩ := blk4 (XC1.out.below P112.out)
 clear hcq hln hb6 hbx hlow hN1
 go_wp2_with fail
 refine Calls.mono HM.out ?_
 rintro e w13 ⟨rfl, ht13⟩
 have hb13 : Below w5.heap.size w12 w13 := below_turns ht13 HLW.out
 have D13 := Lib.hid (D12.out.trans (hb13.mono (show W1.heap.size ≤ w5.heap.size from by have := HWS1.out; have := HBS1.out; omega)))
 have E13 := Lib.hid ((E12.out).trans (hb13.mono (show w4.heap.size ≤ w5.heap.size from by have := HBS1.out; have := HSS.out; omega)))
 have Y13 := Lib.hid ((Y12.out).trans (hb13.mono (show w5.heap.size ≤ w5.heap.size from by have := HBS1.out; have := HSS.out; omega)))
 have HOGx0 := Lib.hid ((HOG0.out.below G12.out).turns ht13 (show kx1 ≤ w7.heap.size from by have := HZX1.out; have := HWI1.out; omega))
 clear HOG0
 have HOG0 := HOGx0
 clear HOGx0
 have XGx : Hid (Blk w13 kG _ 29) := (XG.out.below Q12.out).turns ht13 (.inr (show kx1 ≤ kG from by have := HZX1.out; have := HWI1.out; have := HKGI.out; omega))
 clear XG
 have XG := XGx
 clear XGx
 have HWM13 : Hid (w7.heap.size ≤ w13.heap.size) := by have := HWIc.out; have := ht13.size; unfold Hid; omega
 clear HWIc
 have HWIc := HWM13
 clear HWM13
 clear x0 x1 x2 x3 hkl HM HLW hb13 ht13
 obtain ⟨u0, u1, u2, u3⟩ := blk4 (XG.out.below (Below.refl w13.heap.size w13))
 obtain ⟨v0, v1, v2, v3⟩ := blk4 (XS.out.below Y13.out)
 have hltu := (XG.out.below (Below.refl w13.heap.size w13)).lt
 have hltv := (XS.out.below Y13.out).lt
 go_wp2_with fail
 refine (eqLts_same _ _ _ _ d _ ((HOG0.out.below (Below.refl w13.heap.size w13)).at) ((HOS0.out.below E13.out).at)).mono ?_
 rintro e w14 ⟨rfl, hb14⟩
 have D14 := Lib.hid (D13.out.trans (hb14.mono D13.out.size))
 have E14 := Lib.hid (E13.out.trans (hb14.mono E13.out.size))
 have Y14 := Lib.hid (Y13.out.trans (hb14.mono Y13.out.size))
 have G14 := Lib.hid hb14
 have Q14 := Lib.hid hb14
 clear hb14 u0 u1 u2 u3 v0 v1 v2 v3 hltu hltv
 have hwI : w7.heap.size ≤ w14.heap.size := by have := HWIc.out; have := (G14.out).size; omega
 have hfew := HIS.out.few
 obtain ⟨Z0, hZ0⟩ : ∃ Z : Int, Z = 1 + markLen d := ⟨_, rfl⟩
 have hZz0 : 0 ≤ Z0 ∧ Z0 ≤ 10000000 := by unfold markLen at *; omega
 have HMK := Lib.hid (markLts_is w7.heap.size _ _ d d.states d.initial 1 _ (by decide) (by omega) hwI (HOG0.out.below G14.out))
 rw [← hZ0] at HMK
 have HZZ0 := Lib.hid hZ0
 obtain ⟨u0, u1, u2, u3⟩ := blk4 (XG.out.below Q14.out)
 have hltu := (XG.out.below Q14.out).lt
 clear hZ0
 go_wp2_with fail
 refine Calls.mono HMK.out ?_
 rintro e w15 ⟨rfl, hb15, hom, hon⟩
 have HOM := Lib.hid hom
 have HON := Lib.hid hon
 have D15 := Lib.hid (D14.out.trans (hb15.mono (show W1.heap.size ≤ w7.heap.size from by have := HWS1.out; have := HWIS.out; omega)))
 have E15 := Lib.hid ((E14.out).trans (hb15.mono (show w4.heap.size ≤ w7.heap.size from by have := HWIS.out; have := HSS.out; omega)))
 have Y15 := Lib.hid ((Y14.out).trans (hb15.mono (show w5.heap.size ≤ w7.heap.size from by have := HWIS.out; have := HSS.out; omega)))
 clear HOG0
 have HOG0 := HOM
 clear HOM
 have XGx : Hid (Blk w15 kG _ 29) := HON.out.blk (XG.out.below Q14.out) (by decide)
 clear XG
 have XG := XGx
 clear XGx
 have hwI' : w7.heap.size ≤ w15.heap.size := Nat.le_trans hwI hb15.size
 clear hwI hb15 hom hon HON HMK u0 u1 u2 u3 hltu
 have hwI := hwI'
 clear hwI'
 obtain ⟨u0, u1, u2, u3⟩ := blk4 (XG.out.below (Below.refl w15.heap.size w15))
 have hltu := (XG.out.below (Below.refl w15.heap.size w15)).lt
 have HHE := Lib.hid (heldLts_is w7.heap.size _ _ d d.states d.initial 1 _ (by decide) (by have := HZZ0.out; have := hZz0; omega) (HOG0.out.below (Below.refl w15.heap.size w15)))
 rw [← HZZ0.out] at HHE
 go_wp2_with fail
 refine Calls.mono HHE.out ?_
 rintro e w16 ⟨rfl, hb16⟩
 have D16 := Lib.hid (D15.out.trans (hb16.mono D15.out.size))
 have E16 := Lib.hid (E15.out.trans (hb16.mono E15.out.size))
 have Y16 := Lib.hid (Y15.out.trans (hb16.mono Y15.out.size))
 have G16 := Lib.hid hb16
 have Q16 := Lib.hid hb16
 clear hb16 HHE
 clear u0 u1 u2 u3 hltu
 obtain ⟨x0, x1, x2, x3⟩ := blk4 (X1.out.below D16.out)
 go_wp2_with fail
 refine Calls.mono (HT1.out _ D16.out) ?_
 rintro e w17 ⟨b171, b172, rfl, hb17, hc17⟩
 have HCC17 := Lib.hid hc17
 have D17 := Lib.hid (D16.out.trans (hb17.mono D16.out.size))
 have E17 := Lib.hid (E16.out.trans (hb17.mono E16.out.size))
 have Y17 := Lib.hid (Y16.out.trans (hb17.mono Y16.out.size))
 have G17 := Lib.hid (G16.out.trans (hb17.mono G16.out.size))
 have Q17 := Lib.hid (Q16.out.trans (hb17.mono Q16.out.size))
 clear x0 x1 x2 x3 hb17 hc17
 go_wp2_with fail
 refine Calls.mono (HIMPL.out _ _ _ HCC17.out.labels HCC17.out.edges (HG.out.below D17.out)) ?_
 rintro e w18 ⟨hb18, dh, codeh, lvH, evH, rfl, hisH, hoH0⟩
 obtain ⟨hq0, hq1⟩ := HIS.out.unique hisH
 subst hq0 hq1
 have HOH0 := Lib.hid hoH0
 have D18 := Lib.hid (D17.out.trans (hb18.mono D17.out.size))
 have E18 := Lib.hid (E17.out.trans (hb18.mono E17.out.size))
 have Y18 := Lib.hid (Y17.out.trans (hb18.mono Y17.out.size))
 have G18 := Lib.hid (G17.out.trans (hb18.mono G17.out.size))
 have Q18 := Lib.hid (Q17.out.trans (hb18.mono Q17.out.size))
 clear hisH hoH0 hb18
 obtain ⟨alvH, clvH, rfl, -, -⟩ := owns_slice HOH0.out.1
 obtain ⟨aevH, cevH, rfl, -, -⟩ := owns_slice HOH0.out.2
 obtain ⟨w19, hw19⟩ : ∃ w19, w19 = w18.alloc (.cells #[.int .i64 d.states, .int .i64 d.initial, .slice alvH d.labels.length clvH, .slice aevH d.edges.length cevH] 29) := ⟨_, rfl⟩
 have hb19 : Below w18.heap.size w18 w19 := by rw [hw19]; exact boxNew _ _ _
 obtain ⟨kH, hkH⟩ : ∃ kH, kH = w18.heap.size := ⟨_, rfl⟩
 have XH : Hid (Blk w19 kH [.int .i64 d.states, .int .i64 d.initial, .slice alvH d.labels.length clvH, .slice aevH d.edges.length cevH] 29) := by unfold Hid; rw [hw19, hkH]; exact Blk.new _ _ _
 have HKH := Lib.hid hkH
 have HW19 := Lib.hid hw19
 have hzH : w19.heap.size = kH + 1 := by rw [hw19, hkH]; simp
 have HZH := Lib.hid hzH
 have D19 := Lib.hid (D18.out.trans (hb19.mono D18.out.size))
 have E19 := Lib.hid (E18.out.trans (hb19.mono E18.out.size))
 have Y19 := Lib.hid (Y18.out.trans (hb19.mono Y18.out.size))
 have G19 := Lib.hid (G18.out.trans (hb19.mono G18.out.size))
 have Q19 := Lib.hid (Q18.out.trans (hb19.mono Q18.out.size))
 have H19 := Lib.hid hb19
 clear hb19 hw19 hkH hzH
 obtain ⟨u0, u1, u2, u3⟩ := blk4 (XH.out.below (Below.refl w19.heap.size w19))
 obtain ⟨v0, v1, v2, v3⟩ := blk4 (XS.out.below Y19.out)
 have hltu := (XH.out.below (Below.refl w19.heap.size w19)).lt
 have hltv := (XS.out.below Y19.out).lt
 rw [HW19.out] at v0 v1 v2 v3
 go_wp2_with fail
 rw [← HW19.out, ← HKH.out]
 refine (eqLts_same _ _ _ _ d _ ((HOH0.out.below H19.out).at) ((HOS0.out.below E19.out).at)).mono ?_
 rintro e w20 ⟨rfl, hb20⟩
 have D20 := Lib.hid (D19.out.trans (hb20.mono D19.out.size))
 have E20 := Lib.hid (E19.out.trans (hb20.mono E19.out.size))
 have Y20 := Lib.hid (Y19.out.trans (hb20.mono Y19.out.size))
 have G20 := Lib.hid (G19.out.trans (hb20.mono G19.out.size))
 have Q20 := Lib.hid (Q19.out.trans (hb20.mono Q19.out.size))
 have H20 := Lib.hid (H19.out.trans (hb20.mono H19.out.size))
 have V20 := Lib.hid hb20
 clear hb20 u0 u1 u2 u3 v0 v1 v2 v3 hltu hltv
 obtain ⟨u0, u1, u2, u3⟩ := blk4 (XG.out.below Q20.out)
 have hltu := (XG.out.below Q20.out).lt
 have HHE := Lib.hid (heldLts_is w7.heap.size _ _ d d.states d.initial 1 _ (by decide) (by have := HZZ0.out; have := hZz0; omega) (HOG0.out.below G20.out))
 rw [← HZZ0.out] at HHE
 go_wp2_with fail
 refine Calls.mono HHE.out ?_
 rintro e w21 ⟨rfl, hb21⟩
 have D21 := Lib.hid (D20.out.trans (hb21.mono D20.out.size))
 have E21 := Lib.hid (E20.out.trans (hb21.mono E20.out.size))
 have Y21 := Lib.hid (Y20.out.trans (hb21.mono Y20.out.size))
 have G21 := Lib.hid (G20.out.trans (hb21.mono G20.out.size))
 have Q21 := Lib.hid (Q20.out.trans (hb21.mono Q20.out.size))
 have H21 := Lib.hid (H20.out.trans (hb21.mono H20.out.size))
 have V21 := Lib.hid (V20.out.trans (hb21.mono V20.out.size))
 clear hb21 HHE
 clear u0 u1 u2 u3 hltu
 go_wp2_with fail
 go_ret
 exact ⟨rfl, HB1.out.trans (D21.out.mono HB1.out.size)⟩

end Go.Proofs.YtbjbjbnbapeajaaGreatDoor
