/-
  For all arguments the law FnExactNormalForm answers true: the walk that joins both sides.
-/
import Derived.Test.YtodojigmhlkpeaaGreatDoorF18
import Derived.Test.YtodojigmhlkpeaaGreatDoorF21
import Derived.Test.YtodojigmhlkpeaaGreatDoorF15
import Derived.Deep.RegionHeld3
namespace Go.Proofs.YtodojigmhlkpeaaGreatDoor
open Go Go.RowKit

set_option maxRecDepth 100000 in
set_option maxHeartbeats 4000000 in
theorem lawNormalForm (lo : Nat) (t1 : Lts) (l1 e1 : Value) (w : World) (hs1 : SliceK 1 encS lo w l1 t1.labels) (he1 : SliceK 3 encE lo w e1 t1.edges) (hk1 : StrsOk t1.labels) (g : Glob w) :
  Calls Tryz.prog 3 #[.agg #[.int .i64 t1.states, .int .i64 t1.initial, l1, e1]] w fun e w' => e = .returned (.bool true) ∧ Below w.heap.size w w' := by
 obtain ⟨n0, hn0⟩ : ∃ n0, n0 = w.heap.size := ⟨_, rfl⟩
 obtain ⟨W1, hW1⟩ : ∃ W1, W1 = (w.alloc (.cells #[.int .i64 t1.states, .int .i64 t1.initial, l1, e1] 25)) := ⟨_, rfl⟩
 have hB1 : Below w.heap.size w W1 := by rw [hW1]; exact ((Below.refl _ _).alloc (by simp) _)
 have hX1 : Blk W1 (n0) [.int .i64 t1.states, .int .i64 t1.initial, l1, e1] 25 := by
  have h := Blk.new w [.int .i64 t1.states, .int .i64 t1.initial, l1, e1] 25
  rw [← hn0] at h
  rw [hW1]
  exact h
 have HS1 := Lib.hid (hs1.below hB1)
 have HE1 := Lib.hid (he1.below hB1)
 have K1 := Lib.hid hk1
 have X1 := Lib.hid hX1
 have HG := Lib.hid (g.below hB1)
 have HB1 := Lib.hid hB1
 have HW1 := Lib.hid hW1
 have HN0 := Lib.hid hn0
 clear g hB1 hW1 hn0 hs1 he1 hk1 hX1
 have HC1 := Lib.hid (fun w' (hb : Below W1.heap.size W1 w') => szLts_any (.agg #[.int .i64 t1.states, .int .i64 t1.initial, l1, e1]) lo t1 1048576 w' (by decide) (by decide) K1.out ⟨l1, e1, rfl, HS1.out.below hb, HE1.out.below hb⟩)
 by_cases c1 : szL t1 1048576 < 0
 ·clear HG 
  go_enter Tryz.func3, Tryz.ntmps3
  go_wp2_with fail
  rw [← HW1.out]
  refine Calls.mono (HC1.out _ (Below.refl _ _)) ?_
  rintro e y1 ⟨rfl, hb1⟩
  have D1 := Lib.hid hb1
  clear hb1
  go_wp2_with fail
  go_ret
  exact ⟨rfl, HB1.out.trans (D1.out.mono HB1.out.size)⟩
 have hfit1 := szL_fit (t := t1) (left := 1048576) (by decide) (by omega)
 obtain ⟨M1, hM1⟩ : ∃ M1, M1 = szL t1 1048576 := ⟨_, rfl⟩
 rw [← hM1] at c1 hfit1 HC1
 have HMM1 := Lib.hid hM1
 clear hM1
 have hLz1 : 0 ≤ M1 := by omega
 have hLe1 : M1 ≤ 1048576 := by omega
 have hll1 : t1.labels.length ≤ 1048576 := by omega
 have hel1 : t1.edges.length ≤ 1048576 := by omega
 have J1 : Hid (Short20 t1.labels) := fun i hi => by have := hfit1.2.2.1 _ (List.getElem_mem hi); omega
 have I1 : Hid (Short t1.labels) := fun i hi => Nat.le_trans (J1.out i hi) (by decide)
 have HT1 : Hid (∀ w', Below W1.heap.size W1 w' → Calls Tryz.prog 6 #[.agg #[.int .i64 t1.states, .int .i64 t1.initial, l1, e1]] w' (CopyMade t1 w')) := fun w' hb => copy_any lo t1 _ _ w' hll1 hel1 (HS1.out.below hb) (HE1.out.below hb)
 have HLN1 : Hid (t1.labels.length ≤ 1048576 ∧ t1.edges.length ≤ 1048576) := ⟨hll1, hel1⟩
 have HSPEC : Hid (∀ (a1 b1 : Value) (w' : World), SliceK 1 encS 0 w' a1 t1.labels → SliceK 3 encE 0 w' b1 t1.edges → Calls Tryz.prog 5 #[.agg #[.int .i64 t1.states, .int .i64 t1.initial, a1, b1]] w' (RetNf t1 w')) := fun _ _ w' h1 k1 => specNormalForm_any 0 t1 _ _ w' I1.out h1 k1
 have HIMPL : Hid (∀ (a1 b1 : Value) (w' : World), SliceK 1 encS 0 w' a1 t1.labels → SliceK 3 encE 0 w' b1 t1.edges → Glob w' → Calls Tryz.prog 7 #[.agg #[.int .i64 t1.states, .int .i64 t1.initial, a1, b1]] w' (RetNf t1 w')) := fun _ _ w' h1 k1 hg => implNormalForm_any 0 t1 _ _ w' J1.out h1 k1 hg
 clear hfit1 hll1 hel1
 go_enter Tryz.func3, Tryz.ntmps3
 go_wp2_with fail
 rw [← HW1.out]
 refine Calls.mono (HC1.out _ (Below.refl _ _)) ?_
 rintro e w2 ⟨rfl, hb2⟩
 have D2 := Lib.hid hb2
 clear hb2 HC1
 rw [← HN0.out]
 obtain ⟨x0, x1, x2, x3⟩ := blk4 (X1.out.below D2.out)
 go_wp2_with fail
 refine Calls.mono (HT1.out _ D2.out) ?_
 rintro e w3 ⟨b31, b32, rfl, hb3, hc3⟩
 have HCC3 := Lib.hid hc3
 have D3 := Lib.hid (D2.out.trans (hb3.mono D2.out.size))
 clear x0 x1 x2 x3 hb3 hc3
 go_wp2_with fail
 refine Calls.mono (HSPEC.out _ _ _ HCC3.out.labels HCC3.out.edges) ?_
 rintro e w4 ⟨hb4, d, xss, code, lvS, evS, vS, vsS, wsS, rfl, hisS, hoS0, hoS1, hfarS⟩
 have HIS := Lib.hid hisS
 have HOS0 := Lib.hid hoS0
 have HOS1 := Lib.hid hoS1
 have D4 := Lib.hid (D3.out.trans (hb4.mono D3.out.size))
 clear hisS hoS0 hoS1 hfarS HSPEC hb4
 obtain ⟨alvS, clvS, rfl, -, -⟩ := owns_slice HOS0.out.1
 obtain ⟨aevS, cevS, rfl, -, -⟩ := owns_slice HOS0.out.2
 obtain ⟨w5, hw5⟩ : ∃ w5, w5 = w4.alloc (.cells #[.int .i64 d.states, .int .i64 d.initial, .slice alvS d.labels.length clvS, .slice aevS d.edges.length cevS] 29) := ⟨_, rfl⟩
 have hb5 : Below w4.heap.size w4 w5 := by rw [hw5]; exact boxNew _ _ _
 obtain ⟨kS, hkS⟩ : ∃ kS, kS = w4.heap.size := ⟨_, rfl⟩
 have XS : Hid (Blk w5 kS [.int .i64 d.states, .int .i64 d.initial, .slice alvS d.labels.length clvS, .slice aevS d.edges.length cevS] 29) := by unfold Hid; rw [hw5, hkS]; exact Blk.new _ _ _
 have HKS := Lib.hid hkS
 have HW5 := Lib.hid hw5
 have hzS : w5.heap.size = kS + 1 := by rw [hw5, hkS]; simp
 have HZS := Lib.hid hzS
 have D5 := Lib.hid (D4.out.trans (hb5.mono D4.out.size))
 have E5 := Lib.hid hb5
 clear hb5 hw5 hkS hzS
 have HWS1 : Hid (W1.heap.size ≤ w5.heap.size) := D5.out.size
 have HSS : Hid (w4.heap.size ≤ w5.heap.size) := (E5.out).size
 obtain ⟨x0, x1, x2, x3⟩ := blk4 (X1.out.below D5.out)
 rw [HW5.out] at x0 x1 x2 x3
 go_wp2_with fail
 rw [← HW5.out, ← HKS.out]
 refine Calls.mono (HT1.out _ D5.out) ?_
 rintro e w6 ⟨p11, p12, rfl, hb6, hc6⟩
 have CP1 := Lib.hid hc6
 have HBS1 : Hid (w5.heap.size ≤ w5.heap.size) := ((Below.refl w5.heap.size w5)).size
 have D6 := Lib.hid (D5.out.trans (hb6.mono D5.out.size))
 have E6 := Lib.hid (E5.out.trans (hb6.mono E5.out.size))
 have Y6 := Lib.hid hb6
 clear x0 x1 x2 x3 hb6 hc6
 obtain ⟨w7, hw7⟩ : ∃ w7, w7 = w6.alloc (.cells #[.int .i64 t1.states, .int .i64 t1.initial, .slice (some ⟨p11, 0, none⟩) t1.labels.length t1.labels.length, .slice (some ⟨p12, 0, none⟩) t1.edges.length t1.edges.length] 29) := ⟨_, rfl⟩
 have hb7 : Below w6.heap.size w6 w7 := by rw [hw7]; exact boxNew _ _ _
 obtain ⟨kx1, hkx1⟩ : ∃ kx1, kx1 = w6.heap.size := ⟨_, rfl⟩
 have XC1 : Hid (Blk w7 kx1 [.int .i64 t1.states, .int .i64 t1.initial, .slice (some ⟨p11, 0, none⟩) t1.labels.length t1.labels.length, .slice (some ⟨p12, 0, none⟩) t1.edges.length t1.edges.length] 29) := by unfold Hid; rw [hw7, hkx1]; exact Blk.new _ _ _
 have CQ1 := Lib.hid (CP1.out.below hb7)
 have HKX1 := Lib.hid hkx1
 have HW7 := Lib.hid hw7
 have hb61 : p12 < kx1 := by rw [hkx1]; exact CP1.out.h3
 have HB61 := Lib.hid hb61
 have HZX1 : Hid (w7.heap.size = kx1 + 1) := by unfold Hid; rw [hw7, hkx1]; simp
 have HBX1 : Hid (w5.heap.size ≤ kx1) := by unfold Hid; rw [hkx1]; exact (show w5.heap.size ≤ w6.heap.size from (by have := CP1.out.h1; have := CP1.out.h2; have := CP1.out.h3; omega))
 have D7 := Lib.hid (D6.out.trans (hb7.mono D6.out.size))
 have E7 := Lib.hid (E6.out.trans (hb7.mono E6.out.size))
 have Y7 := Lib.hid (Y6.out.trans (hb7.mono Y6.out.size))
 clear hb7 hw7 hkx1 hb61
 have HWI1 : Hid (kx1 + 1 ≤ w7.heap.size) := by have := ((Below.refl w7.heap.size w7)).size; have := HZX1.out; unfold Hid; omega
 have HWIS : Hid (w5.heap.size ≤ w7.heap.size) := (Y7.out).size
 obtain ⟨x0, x1, x2, x3⟩ := blk4 (XC1.out.below (Below.refl w7.heap.size w7))
 have hlt1 := (XC1.out.below (Below.refl w7.heap.size w7)).lt
 have HGO := Lib.hid (HIMPL.out _ _ _ (CQ1.out.below (Below.refl w7.heap.size w7)).labels (CQ1.out.below (Below.refl w7.heap.size w7)).edges (HG.out.below D7.out))
 go_wp2_with fail
 rw [← HW7.out, ← HKX1.out]
 refine Calls.mono HGO.out ?_
 rintro e w8 ⟨hb8, dg, xssg, codeg, lvG, evG, vG, vsG, wsG, rfl, hisG, hoG0, hoG1, hfarG⟩
 have HFARG := Lib.hid hfarG
 obtain ⟨hq0, hq1, hq2⟩ := HIS.out.unique hisG
 subst hq0 hq1 hq2
 have HOG0 := Lib.hid hoG0
 have HOG1 := Lib.hid hoG1
 have D8 := Lib.hid (D7.out.trans (hb8.mono D7.out.size))
 have E8 := Lib.hid (E7.out.trans (hb8.mono E7.out.size))
 have Y8 := Lib.hid (Y7.out.trans (hb8.mono Y7.out.size))
 have P18 := Lib.hid hb8
 have I8 := Lib.hid hb8
 clear hisG hb8 HGO hoG0 hoG1 hfarG x0 x1 x2 x3 hlt1
 obtain ⟨alvG, clvG, rfl, -, -⟩ := owns_slice HOG0.out.1
 obtain ⟨aevG, cevG, rfl, -, -⟩ := owns_slice HOG0.out.2
 have HKGI : Hid (w7.heap.size ≤ w8.heap.size) := (I8.out).size
 obtain ⟨w9, hw9⟩ : ∃ w9, w9 = w8.alloc (.cells #[.int .i64 d.states, .int .i64 d.initial, .slice alvG d.labels.length clvG, .slice aevG d.edges.length cevG] 29) := ⟨_, rfl⟩
 have hb9 : Below w8.heap.size w8 w9 := by rw [hw9]; exact boxNew _ _ _
 obtain ⟨kG, hkG⟩ : ∃ kG, kG = w8.heap.size := ⟨_, rfl⟩
 have XG : Hid (Blk w9 kG [.int .i64 d.states, .int .i64 d.initial, .slice alvG d.labels.length clvG, .slice aevG d.edges.length cevG] 29) := by unfold Hid; rw [hw9, hkG]; exact Blk.new _ _ _
 have HKG := Lib.hid hkG
 have HW9 := Lib.hid hw9
 have hzG : w9.heap.size = kG + 1 := by rw [hw9, hkG]; simp
 have HZG := Lib.hid hzG
 have D9 := Lib.hid (D8.out.trans (hb9.mono D8.out.size))
 have E9 := Lib.hid (E8.out.trans (hb9.mono E8.out.size))
 have Y9 := Lib.hid (Y8.out.trans (hb9.mono Y8.out.size))
 have P19 := Lib.hid (P18.out.trans (hb9.mono P18.out.size))
 have I9 := Lib.hid (I8.out.trans (hb9.mono I8.out.size))
 have G9 := Lib.hid hb9
 clear hb9 hw9 hkG hzG
 rw [← HKG.out] at HKGI
 obtain ⟨u0, u1, u2, u3⟩ := blk4 (XG.out.below (Below.refl w9.heap.size w9))
 obtain ⟨v0, v1, v2, v3⟩ := blk4 (XS.out.below Y9.out)
 have hltu := (XG.out.below (Below.refl w9.heap.size w9)).lt
 have hltv := (XS.out.below Y9.out).lt
 rw [HW9.out] at v0 v1 v2 v3
 go_wp2_with fail
 rw [← HW9.out, ← HKG.out]
 refine (eqLts_same _ _ _ _ d _ ((HOG0.out.below G9.out).at) ((HOS0.out.below E9.out).at)).mono ?_
 rintro e w10 ⟨rfl, hb10⟩
 have D10 := Lib.hid (D9.out.trans (hb10.mono D9.out.size))
 have E10 := Lib.hid (E9.out.trans (hb10.mono E9.out.size))
 have Y10 := Lib.hid (Y9.out.trans (hb10.mono Y9.out.size))
 have P110 := Lib.hid (P19.out.trans (hb10.mono P19.out.size))
 have I10 := Lib.hid (I9.out.trans (hb10.mono I9.out.size))
 have G10 := Lib.hid (G9.out.trans (hb10.mono G9.out.size))
 have Q10 := Lib.hid hb10
 clear hb10 u0 u1 u2 u3 v0 v1 v2 v3 hltu hltv
 go_wp2_with fail
 refine (eqStringSSS_same _ _ _ _ xss _ ((HOG1.out.below G10.out).at) ((HOS1.out.below E10.out).at)).mono ?_
 rintro e w11 ⟨rfl, hb11⟩
 have D11 := Lib.hid (D10.out.trans (hb11.mono D10.out.size))
 have E11 := Lib.hid (E10.out.trans (hb11.mono E10.out.size))
 have Y11 := Lib.hid (Y10.out.trans (hb11.mono Y10.out.size))
 have P111 := Lib.hid (P110.out.trans (hb11.mono P110.out.size))
 have I11 := Lib.hid (I10.out.trans (hb11.mono I10.out.size))
 have G11 := Lib.hid (G10.out.trans (hb11.mono G10.out.size))
 have Q11 := Lib.hid (Q10.out.trans (hb11.mono Q10.out.size))
 clear hb11
 go_wp2_with fail
 have hDd : Below W1.heap.size W1 w11.drew := D11.out.drew
 have hPd := (P111.out).drew
 have G0 : Hid (w11.cell? ⟨kx1, 0, none⟩ = some (.int .i64 t1.states) ∧ w11.cell? ⟨kx1, 1, none⟩ = some (.int .i64 t1.initial) ∧ w11.cell? ⟨kx1, 2, none⟩ = some (.slice (some ⟨p11, 0, none⟩) t1.labels.length t1.labels.length) ∧ w11.cell? ⟨kx1, 3, none⟩ = some (.slice (some ⟨p12, 0, none⟩) t1.edges.length t1.edges.length) ∧ w11.cell? ⟨n0, 0, none⟩ = some (.int .i64 t1.states) ∧ w11.cell? ⟨n0, 1, none⟩ = some (.int .i64 t1.initial) ∧ w11.cell? ⟨n0, 2, none⟩ = some (l1) ∧ w11.cell? ⟨n0, 3, none⟩ = some (e1)) := ⟨(XC1.out.below P111.out).cell 0 rfl, (XC1.out.below P111.out).cell 1 rfl, (XC1.out.below P111.out).cell 2 rfl, (XC1.out.below P111.out).cell 3 rfl, (X1.out.below D11.out).cell 0 rfl, (X1.out.below D11.out).cell 1 rfl, (X1.out.below D11.out).cell 2 rfl, (X1.out.below D11.out).cell 3 rfl⟩
 have G1 : Hid (w11.drew.cell? ⟨kx1, 0, none⟩ = some (.int .i64 t1.states) ∧ w11.drew.cell? ⟨kx1, 1, none⟩ = some (.int .i64 t1.initial) ∧ w11.drew.cell? ⟨kx1, 2, none⟩ = some (.slice (some ⟨p11, 0, none⟩) t1.labels.length t1.labels.length) ∧ w11.drew.cell? ⟨kx1, 3, none⟩ = some (.slice (some ⟨p12, 0, none⟩) t1.edges.length t1.edges.length) ∧ w11.drew.cell? ⟨n0, 0, none⟩ = some (.int .i64 t1.states) ∧ w11.drew.cell? ⟨n0, 1, none⟩ = some (.int .i64 t1.initial) ∧ w11.drew.cell? ⟨n0, 2, none⟩ = some (l1) ∧ w11.drew.cell? ⟨n0, 3, none⟩ = some (e1)) := ⟨(XC1.out.below hPd).cell 0 rfl, (XC1.out.below hPd).cell 1 rfl, (XC1.out.below hPd).cell 2 rfl, (XC1.out.below hPd).cell 3 rfl, (X1.out.below hDd).cell 0 rfl, (X1.out.below hDd).cell 1 rfl, (X1.out.below hDd).cell 2 rfl, (X1.out.below hDd).cell 3 rfl⟩
 go_region_held3 (fun w' => w'.cell? ⟨kx1, 0, none⟩ = some (.int .i64 t1.states) ∧ w'.cell? ⟨kx1, 1, none⟩ = some (.int .i64 t1.initial) ∧ w'.cell? ⟨kx1, 2, none⟩ = some (.slice (some ⟨p11, 0, none⟩) t1.labels.length t1.labels.length) ∧ w'.cell? ⟨kx1, 3, none⟩ = some (.slice (some ⟨p12, 0, none⟩) t1.edges.length t1.edges.length) ∧ w'.cell? ⟨n0, 0, none⟩ = some (.int .i64 t1.states) ∧ w'.cell? ⟨n0, 1, none⟩ = some (.int .i64 t1.initial) ∧ w'.cell? ⟨n0, 2, none⟩ = some (l1) ∧ w'.cell? ⟨n0, 3, none⟩ = some (e1))
  (first | exact G0.out | exact G1.out | exact G2.out | exact G3.out | go_keep)
  (first
   | (go_at_call 6; refine Calls.mono (HT1.out _ hDd) ?_; rintro e w12 ⟨b121, b122, rfl, hb12, hc12⟩; have hD2 := hDd.trans (hb12.mono hDd.size); have hP2 := hPd.trans (hb12.mono hPd.size); have G2 : Hid (w12.cell? ⟨kx1, 0, none⟩ = some (.int .i64 t1.states) ∧ w12.cell? ⟨kx1, 1, none⟩ = some (.int .i64 t1.initial) ∧ w12.cell? ⟨kx1, 2, none⟩ = some (.slice (some ⟨p11, 0, none⟩) t1.labels.length t1.labels.length) ∧ w12.cell? ⟨kx1, 3, none⟩ = some (.slice (some ⟨p12, 0, none⟩) t1.edges.length t1.edges.length) ∧ w12.cell? ⟨n0, 0, none⟩ = some (.int .i64 t1.states) ∧ w12.cell? ⟨n0, 1, none⟩ = some (.int .i64 t1.initial) ∧ w12.cell? ⟨n0, 2, none⟩ = some (l1) ∧ w12.cell? ⟨n0, 3, none⟩ = some (e1)) := ⟨(XC1.out.below hP2).cell 0 rfl, (XC1.out.below hP2).cell 1 rfl, (XC1.out.below hP2).cell 2 rfl, (XC1.out.below hP2).cell 3 rfl, (X1.out.below hD2).cell 0 rfl, (X1.out.below hD2).cell 1 rfl, (X1.out.below hD2).cell 2 rfl, (X1.out.below hD2).cell 3 rfl⟩)
   | (go_at_call 8; refine (eqLts_same _ _ 0 0 t1 _ (CQ1.out.below hP2).at hc12.at).mono ?_; rintro e w13 ⟨rfl, hb13⟩; have hD3 := hD2.trans (hb13.mono hD2.size); have hP3 := hP2.trans (hb13.mono hP2.size); have G3 : Hid (w13.cell? ⟨kx1, 0, none⟩ = some (.int .i64 t1.states) ∧ w13.cell? ⟨kx1, 1, none⟩ = some (.int .i64 t1.initial) ∧ w13.cell? ⟨kx1, 2, none⟩ = some (.slice (some ⟨p11, 0, none⟩) t1.labels.length t1.labels.length) ∧ w13.cell? ⟨kx1, 3, none⟩ = some (.slice (some ⟨p12, 0, none⟩) t1.edges.length t1.edges.length) ∧ w13.cell? ⟨n0, 0, none⟩ = some (.int .i64 t1.states) ∧ w13.cell? ⟨n0, 1, none⟩ = some (.int .i64 t1.initial) ∧ w13.cell? ⟨n0, 2, none⟩ = some (l1) ∧ w13.cell? ⟨n0, 3, none⟩ = some (e1)) := ⟨(XC1.out.below hP3).cell 0 rfl, (XC1.out.below hP3).cell 1 rfl, (XC1.out.below hP3).cell 2 rfl, (XC1.out.below hP3).cell 3 rfl, (X1.out.below hD3).cell 0 rfl, (X1.out.below hD3).cell 1 rfl, (X1.out.below hD3).cell 2 rfl, (X1.out.below hD3).cell 3 rfl⟩))
 have hall13 : Below w11.heap.size w11 w13 := (((Below.refl w11.heap.size w11).drew).trans (hb12.mono (by simp))).trans (hb13.mono (Nat.le_trans (by simp) hb12.size))
 have D13 := Lib.hid (D11.out.trans (hall13.mono D11.out.size))
 have E13 := Lib.hid (E11.out.trans (hall13.mono E11.out.size))
 have Y13 := Lib.hid (Y11.out.trans (hall13.mono Y11.out.size))
 have P113 := Lib.hid (P111.out.trans (hall13.mono P111.out.size))
 have I13 := Lib.hid (I11.out.trans (hall13.mono I11.out.size))
 have G13 := Lib.hid (G11.out.trans (hall13.mono G11.out.size))
 have Q13 := Lib.hid (Q11.out.trans (hall13.mono Q11.out.size))
 clear hDd hPd hD2 hP2 hD3 hP3 G0 G1 G2 G3 hall13 hb12 hc12 hb13
 have HWIc : Hid (w7.heap.size ≤ w13.heap.size) := (I13.out).size
 have hcq := CQ1.out.below P113.out
 have hln := HLN1.out
 have hb6 := HB61.out
 have hbx := HBX1.out
 have hkl := (XC1.out.below P113.out).lt
 obtain ⟨N1, hN1⟩ : ∃ N : Int, N = 1 + (t1.labels.length : Int) + 3 * (t1.edges.length : Int) := ⟨_, rfl⟩
 have hNz1 : 0 ≤ N1 := by omega
 have hNb1 : N1 ≤ 5000000 := by omega
 have HM := Lib.hid (markLts_any w5.heap.size kx1 p11 p12 t1.labels.length t1.edges.length t1.states t1.initial _ _ 1 w13 (by decide) (by omega) hcq.h1 (by have := hcq.h2; omega) (by have := hcq.h1; have := hcq.h2; omega) hb6 (by omega) (by have := hcq.h2; omega) hcq.o1 (own_lower hcq.o2 (by have := hcq.h1; have := hcq.h2; omega)))
 rw [← hN1] at HM
 have HN1 := Lib.hid hN1
 have hlow := hcq.h1
 have HLW : Hid (w5.heap.size ≤ w13.heap.size) := by unfold Hid; omega
 obtain ⟨x0, x1, x2, x3⟩ := blk4 (XC1.out.below P113.out)
 clear hcq hln hb6 hbx hlow hN1
 go_wp2_with fail
 refine Calls.mono HM.out ?_
 rintro e w14 ⟨rfl, ht14⟩
 have hb14 : Below w5.heap.size w13 w14 := below_turns ht14 HLW.out
 have D14 := Lib.hid (D13.out.trans (hb14.mono (show W1.heap.size ≤ w5.heap.size from by have := HWS1.out; have := HBS1.out; omega)))
 have E14 := Lib.hid ((E13.out).trans (hb14.mono (show w4.heap.size ≤ w5.heap.size from by have := HBS1.out; have := HSS.out; omega)))
 have Y14 := Lib.hid ((Y13.out).trans (hb14.mono (show w5.heap.size ≤ w5.heap.size from by have := HBS1.out; have := HSS.out; omega)))
 have HOGx0 := Lib.hid ((HOG0.out.below G13.out).turns ht14 (show kx1 ≤ w7.heap.size from by have := HZX1.out; have := HWI1.out; omega))
 clear HOG0
 have HOG0 := HOGx0
 clear HOGx0
 have HOGx1 := Lib.hid ((HOG1.out.below G13.out).turns ht14 (show kx1 ≤ w7.heap.size from by have := HZX1.out; have := HWI1.out; omega))
 clear HOG1
 have HOG1 := HOGx1
 clear HOGx1
 have XGx : Hid (Blk w14 kG _ 29) := (XG.out.below Q13.out).turns ht14 (.inr (show kx1 ≤ kG from by have := HZX1.out; have := HWI1.out; have := HKGI.out; omega))
 clear XG
 have XG := XGx
 clear XGx
 have HWM14 : Hid (w7.heap.size ≤ w14.heap.size) := by have := HWIc.out; have := ht14.size; unfold Hid; omega
 clear HWIc
 have HWIc := HWM14
 clear HWM14
 clear x0 x1 x2 x3 hkl HM HLW hb14 ht14
 obtain ⟨u0, u1, u2, u3⟩ := blk4 (XG.out.below (Below.refl w14.heap.size w14))
 obtain ⟨v0, v1, v2, v3⟩ := blk4 (XS.out.below Y14.out)
 have hltu := (XG.out.below (Below.refl w14.heap.size w14)).lt
 have hltv := (XS.out.below Y14.out).lt
 go_wp2_with fail
 refine (eqLts_same _ _ _ _ d _ ((HOG0.out.below (Below.refl w14.heap.size w14)).at) ((HOS0.out.below E14.out).at)).mono ?_
 rintro e w15 ⟨rfl, hb15⟩
 have D15 := Lib.hid (D14.out.trans (hb15.mono D14.out.size))
 have E15 := Lib.hid (E14.out.trans (hb15.mono E14.out.size))
 have Y15 := Lib.hid (Y14.out.trans (hb15.mono Y14.out.size))
 have G15 := Lib.hid hb15
 have Q15 := Lib.hid hb15
 clear hb15 u0 u1 u2 u3 v0 v1 v2 v3 hltu hltv
 go_wp2_with fail
 refine (eqStringSSS_same _ _ _ _ xss _ ((HOG1.out.below G15.out).at) ((HOS1.out.below E15.out).at)).mono ?_
 rintro e w16 ⟨rfl, hb16⟩
 have D16 := Lib.hid (D15.out.trans (hb16.mono D15.out.size))
 have E16 := Lib.hid (E15.out.trans (hb16.mono E15.out.size))
 have Y16 := Lib.hid (Y15.out.trans (hb16.mono Y15.out.size))
 have G16 := Lib.hid (G15.out.trans (hb16.mono G15.out.size))
 have Q16 := Lib.hid (Q15.out.trans (hb16.mono Q15.out.size))
 clear hb16
 have hwI : w7.heap.size ≤ w16.heap.size := by have := HWIc.out; have := (G16.out).size; omega
 have hfew := HIS.out.few
 obtain ⟨Z0, hZ0⟩ : ∃ Z : Int, Z = 1 + markLen d := ⟨_, rfl⟩
 have hZz0 : 0 ≤ Z0 ∧ Z0 ≤ 10000000 := by unfold markLen at *; omega
 have HMK := Lib.hid (markLts_far w7.heap.size _ _ d d.states d.initial 1 _ (by decide) (by omega) hwI (HOG0.out.below G16.out))
 rw [← hZ0] at HMK
 have HZZ0 := Lib.hid hZ0
 obtain ⟨u0, u1, u2, u3⟩ := blk4 (XG.out.below Q16.out)
 have hltu := (XG.out.below Q16.out).lt
 clear hZ0
 go_wp2_with fail
 refine Calls.mono HMK.out ?_
 rintro e w17 ⟨rfl, hb17, hom, hon, hgr⟩
 have HGR := Lib.hid hgr
 clear hgr
 have HOM := Lib.hid hom
 have HON := Lib.hid hon
 have D17 := Lib.hid (D16.out.trans (hb17.mono (show W1.heap.size ≤ w7.heap.size from by have := HWS1.out; have := HWIS.out; omega)))
 have E17 := Lib.hid ((E16.out).trans (hb17.mono (show w4.heap.size ≤ w7.heap.size from by have := HWIS.out; have := HSS.out; omega)))
 have Y17 := Lib.hid ((Y16.out).trans (hb17.mono (show w5.heap.size ≤ w7.heap.size from by have := HWIS.out; have := HSS.out; omega)))
 have HOGx1 := Lib.hid (OwnStrsss.beside (HOG1.out.below G16.out) HON.out HGR.out HFARG.out)
 clear HOG1
 have HOG1 := HOGx1
 clear HOGx1
 clear HOG0
 have HOG0 := HOM
 clear HOM
 have XGx : Hid (Blk w17 kG _ 29) := HON.out.blk (XG.out.below Q16.out) (by decide)
 clear XG
 have XG := XGx
 clear XGx
 have hwI' : w7.heap.size ≤ w17.heap.size := Nat.le_trans hwI hb17.size
 clear hwI hb17 hom hon HON HMK u0 u1 u2 u3 hltu
 have hwI := hwI'
 clear hwI'
 obtain ⟨Z1, hZ1⟩ : ∃ Z : Int, Z = Z0 + (totalS xss.flatten : Int) := ⟨_, rfl⟩
 have hZz1 : 0 ≤ Z1 ∧ Z1 ≤ 20000000 := by omega
 have HMK := Lib.hid (markStrsss_own w7.heap.size _ _ _ xss Z0 _ hZz0.1 (by omega) hwI (HOG1.out.below (Below.refl w17.heap.size w17)))
 rw [← hZ1] at HMK
 have HZZ1 := Lib.hid hZ1
 clear hZ1
 go_wp2_with fail
 refine Calls.mono HMK.out ?_
 rintro e w18 ⟨rfl, hb18, hom, hon, hgr⟩
 have HGR := Lib.hid hgr
 clear hgr
 have HOM := Lib.hid hom
 have HON := Lib.hid hon
 have D18 := Lib.hid (D17.out.trans (hb18.mono (show W1.heap.size ≤ w7.heap.size from by have := HWS1.out; have := HWIS.out; omega)))
 have E18 := Lib.hid ((E17.out).trans (hb18.mono (show w4.heap.size ≤ w7.heap.size from by have := HWIS.out; have := HSS.out; omega)))
 have Y18 := Lib.hid ((Y17.out).trans (hb18.mono (show w5.heap.size ≤ w7.heap.size from by have := HWIS.out; have := HSS.out; omega)))
 have HOGx0 := Lib.hid (OwnLts.beside (HOG0.out.below (Below.refl w17.heap.size w17)) HON.out HGR.out HFARG.out)
 clear HOG0
 have HOG0 := HOGx0
 clear HOGx0
 clear HOG1
 have HOG1 := HOM
 clear HOM
 have XGx : Hid (Blk w18 kG _ 29) := HON.out.blk (XG.out.below (Below.refl w17.heap.size w17)) (by decide)
 clear XG
 have XG := XGx
 clear XGx
 have hwI' : w7.heap.size ≤ w18.heap.size := Nat.le_trans hwI hb18.size
 clear hwI hb18 hom hon HON HMK
 have hwI := hwI'
 clear hwI'
 obtain ⟨u0, u1, u2, u3⟩ := blk4 (XG.out.below (Below.refl w18.heap.size w18))
 have hltu := (XG.out.below (Below.refl w18.heap.size w18)).lt
 have HHE := Lib.hid (heldLts_is w7.heap.size _ _ d d.states d.initial 1 _ (by decide) (by have := HZZ0.out; have := hZz0; omega) (HOG0.out.below (Below.refl w18.heap.size w18)))
 rw [← HZZ0.out] at HHE
 go_wp2_with fail
 refine Calls.mono HHE.out ?_
 rintro e w19 ⟨rfl, hb19⟩
 have D19 := Lib.hid (D18.out.trans (hb19.mono D18.out.size))
 have E19 := Lib.hid (E18.out.trans (hb19.mono E18.out.size))
 have Y19 := Lib.hid (Y18.out.trans (hb19.mono Y18.out.size))
 have G19 := Lib.hid hb19
 have Q19 := Lib.hid hb19
 clear hb19 HHE
 clear u0 u1 u2 u3 hltu
 have HHE := Lib.hid (heldStrsss_is w7.heap.size _ _ _ xss Z0 _ hZz0.1 (by have := HZZ1.out; have := hZz1; omega) (HOG1.out.below G19.out))
 rw [← HZZ1.out] at HHE
 go_wp2_with fail
 refine Calls.mono HHE.out ?_
 rintro e w20 ⟨rfl, hb20⟩
 have D20 := Lib.hid (D19.out.trans (hb20.mono D19.out.size))
 have E20 := Lib.hid (E19.out.trans (hb20.mono E19.out.size))
 have Y20 := Lib.hid (Y19.out.trans (hb20.mono Y19.out.size))
 have G20 := Lib.hid (G19.out.trans (hb20.mono G19.out.size))
 have Q20 := Lib.hid (Q19.out.trans (hb20.mono Q19.out.size))
 clear hb20 HHE
 obtain ⟨x0, x1, x2, x3⟩ := blk4 (X1.out.below D20.out)
 go_wp2_with fail
 refine Calls.mono (HT1.out _ D20.out) ?_
 rintro e w21 ⟨b211, b212, rfl, hb21, hc21⟩
 have HCC21 := Lib.hid hc21
 have D21 := Lib.hid (D20.out.trans (hb21.mono D20.out.size))
 have E21 := Lib.hid (E20.out.trans (hb21.mono E20.out.size))
 have Y21 := Lib.hid (Y20.out.trans (hb21.mono Y20.out.size))
 have G21 := Lib.hid (G20.out.trans (hb21.mono G20.out.size))
 have Q21 := Lib.hid (Q20.out.trans (hb21.mono Q20.out.size))
 clear x0 x1 x2 x3 hb21 hc21
 go_wp2_with fail
 refine Calls.mono (HIMPL.out _ _ _ HCC21.out.labels HCC21.out.edges (HG.out.below D21.out)) ?_
 rintro e w22 ⟨hb22, dh, xssh, codeh, lvH, evH, vH, vsH, wsH, rfl, hisH, hoH0, hoH1, hfarH⟩
 obtain ⟨hq0, hq1, hq2⟩ := HIS.out.unique hisH
 subst hq0 hq1 hq2
 have HOH0 := Lib.hid hoH0
 have HOH1 := Lib.hid hoH1
 have D22 := Lib.hid (D21.out.trans (hb22.mono D21.out.size))
 have E22 := Lib.hid (E21.out.trans (hb22.mono E21.out.size))
 have Y22 := Lib.hid (Y21.out.trans (hb22.mono Y21.out.size))
 have G22 := Lib.hid (G21.out.trans (hb22.mono G21.out.size))
 have Q22 := Lib.hid (Q21.out.trans (hb22.mono Q21.out.size))
 clear hisH hoH0 hoH1 hfarH hb22
 obtain ⟨alvH, clvH, rfl, -, -⟩ := owns_slice HOH0.out.1
 obtain ⟨aevH, cevH, rfl, -, -⟩ := owns_slice HOH0.out.2
 obtain ⟨w23, hw23⟩ : ∃ w23, w23 = w22.alloc (.cells #[.int .i64 d.states, .int .i64 d.initial, .slice alvH d.labels.length clvH, .slice aevH d.edges.length cevH] 29) := ⟨_, rfl⟩
 have hb23 : Below w22.heap.size w22 w23 := by rw [hw23]; exact boxNew _ _ _
 obtain ⟨kH, hkH⟩ : ∃ kH, kH = w22.heap.size := ⟨_, rfl⟩
 have XH : Hid (Blk w23 kH [.int .i64 d.states, .int .i64 d.initial, .slice alvH d.labels.length clvH, .slice aevH d.edges.length cevH] 29) := by unfold Hid; rw [hw23, hkH]; exact Blk.new _ _ _
 have HKH := Lib.hid hkH
 have HW23 := Lib.hid hw23
 have hzH : w23.heap.size = kH + 1 := by rw [hw23, hkH]; simp
 have HZH := Lib.hid hzH
 have D23 := Lib.hid (D22.out.trans (hb23.mono D22.out.size))
 have E23 := Lib.hid (E22.out.trans (hb23.mono E22.out.size))
 have Y23 := Lib.hid (Y22.out.trans (hb23.mono Y22.out.size))
 have G23 := Lib.hid (G22.out.trans (hb23.mono G22.out.size))
 have Q23 := Lib.hid (Q22.out.trans (hb23.mono Q22.out.size))
 have H23 := Lib.hid hb23
 clear hb23 hw23 hkH hzH
 obtain ⟨u0, u1, u2, u3⟩ := blk4 (XH.out.below (Below.refl w23.heap.size w23))
 obtain ⟨v0, v1, v2, v3⟩ := blk4 (XS.out.below Y23.out)
 have hltu := (XH.out.below (Below.refl w23.heap.size w23)).lt
 have hltv := (XS.out.below Y23.out).lt
 rw [HW23.out] at v0 v1 v2 v3
 go_wp2_with fail
 rw [← HW23.out, ← HKH.out]
 refine (eqLts_same _ _ _ _ d _ ((HOH0.out.below H23.out).at) ((HOS0.out.below E23.out).at)).mono ?_
 rintro e w24 ⟨rfl, hb24⟩
 have D24 := Lib.hid (D23.out.trans (hb24.mono D23.out.size))
 have E24 := Lib.hid (E23.out.trans (hb24.mono E23.out.size))
 have Y24 := Lib.hid (Y23.out.trans (hb24.mono Y23.out.size))
 have G24 := Lib.hid (G23.out.trans (hb24.mono G23.out.size))
 have Q24 := Lib.hid (Q23.out.trans (hb24.mono Q23.out.size))
 have H24 := Lib.hid (H23.out.trans (hb24.mono H23.out.size))
 have V24 := Lib.hid hb24
 clear hb24 u0 u1 u2 u3 v0 v1 v2 v3 hltu hltv
 go_wp2_with fail
 refine (eqStringSSS_same _ _ _ _ xss _ ((HOH1.out.below H24.out).at) ((HOS1.out.below E24.out).at)).mono ?_
 rintro e w25 ⟨rfl, hb25⟩
 have D25 := Lib.hid (D24.out.trans (hb25.mono D24.out.size))
 have E25 := Lib.hid (E24.out.trans (hb25.mono E24.out.size))
 have Y25 := Lib.hid (Y24.out.trans (hb25.mono Y24.out.size))
 have G25 := Lib.hid (G24.out.trans (hb25.mono G24.out.size))
 have Q25 := Lib.hid (Q24.out.trans (hb25.mono Q24.out.size))
 have H25 := Lib.hid (H24.out.trans (hb25.mono H24.out.size))
 have V25 := Lib.hid (V24.out.trans (hb25.mono V24.out.size))
 clear hb25
 obtain ⟨u0, u1, u2, u3⟩ := blk4 (XG.out.below Q25.out)
 have hltu := (XG.out.below Q25.out).lt
 have HHE := Lib.hid (heldLts_is w7.heap.size _ _ d d.states d.initial 1 _ (by decide) (by have := HZZ0.out; have := hZz0; omega) (HOG0.out.below G25.out))
 rw [← HZZ0.out] at HHE
 go_wp2_with fail
 refine Calls.mono HHE.out ?_
 rintro e w26 ⟨rfl, hb26⟩
 have D26 := Lib.hid (D25.out.trans (hb26.mono D25.out.size))
 have E26 := Lib.hid (E25.out.trans (hb26.mono E25.out.size))
 have Y26 := Lib.hid (Y25.out.trans (hb26.mono Y25.out.size))
 have G26 := Lib.hid (G25.out.trans (hb26.mono G25.out.size))
 have Q26 := Lib.hid (Q25.out.trans (hb26.mono Q25.out.size))
 have H26 := Lib.hid (H25.out.trans (hb26.mono H25.out.size))
 have V26 := Lib.hid (V25.out.trans (hb26.mono V25.out.size))
 clear hb26 HHE
 clear u0 u1 u2 u3 hltu
 have HHE := Lib.hid (heldStrsss_is w7.heap.size _ _ _ xss Z0 _ hZz0.1 (by have := HZZ1.out; have := hZz1; omega) (HOG1.out.below G26.out))
 rw [← HZZ1.out] at HHE
 go_wp2_with fail
 refine Calls.mono HHE.out ?_
 rintro e w27 ⟨rfl, hb27⟩
 have D27 := Lib.hid (D26.out.trans (hb27.mono D26.out.size))
 have E27 := Lib.hid (E26.out.trans (hb27.mono E26.out.size))
 have Y27 := Lib.hid (Y26.out.trans (hb27.mono Y26.out.size))
 have G27 := Lib.hid (G26.out.trans (hb27.mono G26.out.size))
 have Q27 := Lib.hid (Q26.out.trans (hb27.mono Q26.out.size))
 have H27 := Lib.hid (H26.out.trans (hb27.mono H26.out.size))
 have V27 := Lib.hid (V26.out.trans (hb27.mono V26.out.size))
 clear hb27 HHE
 go_wp2_with fail
 go_ret
 exact ⟨rfl, HB1.out.trans (D27.out.mono HB1.out.size)⟩

end Go.Proofs.YtodojigmhlkpeaaGreatDoor
