/-
  For all arguments the law FnExactSuspensionAutomaton answers true: the walk that joins both sides.
-/
import Derived.Test.YtkbgncenjfebdaaGreatDoorS20
import Derived.Test.YtkbgncenjfebdaaGreatDoorS23
import Derived.Test.YtkbgncenjfebdaaGreatDoorS24
import Derived.Test.YtkbgncenjfebdaaGreatDoorS18
import Derived.Deep.RegionHeld3
namespace Go.Proofs.YtkbgncenjfebdaaGreatDoor
open Go Go.RowKit

set_option maxRecDepth 100000 in
set_option maxHeartbeats 4000000 in
theorem lawSuspensionAutomaton (lo : Nat) (t1 : Lts) (l1 e1 : Value) (v2 : Value) (ins : List ByteArray) (w : World) (hs1 : SliceK 1 encS lo w l1 t1.labels) (he1 : SliceK 3 encE lo w e1 t1.edges) (hk1 : StrsOk t1.labels) (hs2 : SliceK 1 encS lo w v2 ins) (hk2 : StrsOk ins) (g : Glob w) :
  Calls Tryz.prog 3 #[.agg #[.int .i64 t1.states, .int .i64 t1.initial, l1, e1], v2] w fun e w' => e = .returned (.bool true) ∧ Below w.heap.size w w' := by
 obtain ⟨n0, hn0⟩ : ∃ n0, n0 = w.heap.size := ⟨_, rfl⟩
 obtain ⟨W1, hW1⟩ : ∃ W1, W1 = (w.alloc (.cells #[.int .i64 t1.states, .int .i64 t1.initial, l1, e1] 25)) := ⟨_, rfl⟩
 have hB1 : Below w.heap.size w W1 := by rw [hW1]; exact ((Below.refl _ _).alloc (by simp) _)
 have hX1 : Blk W1 (n0) [.int .i64 t1.states, .int .i64 t1.initial, l1, e1] 25 := by
  have h := Blk.new w [.int .i64 t1.states, .int .i64 t1.initial, l1, e1] 25
  rw [← hn0] at h
  rw [hW1]
  exact h
 have HS1 := Lib.hid (hs1.below hB1)
 have HE1 := Lib.hid (he1.below hB1)
 have K1 := Lib.hid hk1
 have X1 := Lib.hid hX1
 have HS2 := Lib.hid (hs2.below hB1)
 have K2 := Lib.hid hk2
 clear hs2 hk2
 have HG := Lib.hid (g.below hB1)
 have HB1 := Lib.hid hB1
 have HW1 := Lib.hid hW1
 have HN0 := Lib.hid hn0
 clear g hB1 hW1 hn0 hs1 he1 hk1 hX1
 have HC1 := Lib.hid (fun w' (hb : Below W1.heap.size W1 w') => szLts_any (.agg #[.int .i64 t1.states, .int .i64 t1.initial, l1, e1]) lo t1 1048576 w' (by decide) (by decide) K1.out ⟨l1, e1, rfl, HS1.out.below hb, HE1.out.below hb⟩)
 by_cases c1 : szL t1 1048576 < 0
 ·clear HG 
  go_enter Tryz.func3, Tryz.ntmps3
  go_wp2_with fail
  rw [← HW1.out]
  refine Calls.mono (HC1.out _ (Below.refl _ _)) ?_
  rintro e y1 ⟨rfl, hb1⟩
  have D1 := Lib.hid hb1
  clear hb1
  go_wp2_with fail
  go_ret
  exact ⟨rfl, HB1.out.trans (D1.out.mono HB1.out.size)⟩
 have hfit1 := szL_fit (t := t1) (left := 1048576) (by decide) (by omega)
 obtain ⟨M1, hM1⟩ : ∃ M1, M1 = szL t1 1048576 := ⟨_, rfl⟩
 rw [← hM1] at c1 hfit1 HC1
 have HMM1 := Lib.hid hM1
 clear hM1
 have hLz1 : 0 ≤ M1 := by omega
 have hLe1 : M1 ≤ 1048576 := by omega
 have HC2 := Lib.hid (fun w' (hb : Below W1.heap.size W1 w') => szStringS_any v2 lo ins M1 w' hLz1 hLe1 K2.out (HS2.out.below hb))
 by_cases c2 : szSS ins M1 < 0
 ·clear HG hLe1 hfit1
  go_enter Tryz.func3, Tryz.ntmps3
  go_wp2_with fail
  rw [← HW1.out]
  refine Calls.mono (HC1.out _ (Below.refl _ _)) ?_
  rintro e y1 ⟨rfl, hb1⟩
  have D1 := Lib.hid hb1
  clear hb1
  go_wp2_with fail
  refine Calls.mono (HC2.out _ D1.out) ?_
  rintro e y2 ⟨rfl, rfl⟩
  go_wp2_with fail
  go_ret
  exact ⟨rfl, HB1.out.trans (D1.out.mono HB1.out.size)⟩
 have hfit2 := szSS_fit (ss := ins) (left := M1) hLe1 (by omega)
 obtain ⟨M2, hM2⟩ : ∃ M2, M2 = szSS ins M1 := ⟨_, rfl⟩
 rw [← hM2] at c2 HC2
 clear hM2
 have J2 : Hid (Short20 ins) := fun i hi => by have := hfit2.2 _ (List.getElem_mem hi); omega
 have I2 : Hid (Short ins) := fun i hi => Nat.le_trans (J2.out i hi) (by decide)
 have hln2 : ins.length ≤ 1048576 := by omega
 have HLN2 := Lib.hid hln2
 have HT2 : Hid (∀ w', Below W1.heap.size W1 w' → Calls Tryz.prog 13 #[v2] w' (MadeStrs w' ins)) := fun w' hb => toStringS_any v2 lo ins w' HLN2.out (HS2.out.below hb)
 clear hfit2 hln2
 have hll1 : t1.labels.length ≤ 1048576 := by omega
 have hel1 : t1.edges.length ≤ 1048576 := by omega
 have J1 : Hid (Short20 t1.labels) := fun i hi => by have := hfit1.2.2.1 _ (List.getElem_mem hi); omega
 have I1 : Hid (Short t1.labels) := fun i hi => Nat.le_trans (J1.out i hi) (by decide)
 have HT1 : Hid (∀ w', Below W1.heap.size W1 w' → Calls Tryz.prog 12 #[.agg #[.int .i64 t1.states, .int .i64 t1.initial, l1, e1]] w' (CopyMade t1 w')) := fun w' hb => copy_any lo t1 _ _ w' hll1 hel1 (HS1.out.below hb) (HE1.out.below hb)
 have HLN1 : Hid (t1.labels.length ≤ 1048576 ∧ t1.edges.length ≤ 1048576) := ⟨hll1, hel1⟩
 have HSPEC : Hid (∀ (a1 b1 : Value) (c2 : Value) (w' : World), SliceK 1 encS 0 w' a1 t1.labels → SliceK 3 encE 0 w' b1 t1.edges → SliceK 1 encS 0 w' c2 ins → Calls Tryz.prog 11 #[.agg #[.int .i64 t1.states, .int .i64 t1.initial, a1, b1], c2] w' (RetSa t1 ins w')) := fun _ _ _ w' h1 k1 s2 => specSuspensionAutomaton_any 0 t1 _ _ _ ins w' I1.out h1 k1 s2
 have HIMPL : Hid (∀ (a1 b1 : Value) (c2 : Value) (w' : World), SliceK 1 encS 0 w' a1 t1.labels → SliceK 3 encE 0 w' b1 t1.edges → SliceK 1 encS 0 w' c2 ins → Glob w' → Calls Tryz.prog 14 #[.agg #[.int .i64 t1.states, .int .i64 t1.initial, a1, b1], c2] w' (RetSa t1 ins w')) := fun _ _ _ w' h1 k1 s2 hg => implSuspensionAutomaton_any 0 t1 _ _ _ ins w' J1.out J2.out h1 k1 s2 hg
 clear hfit1 hll1 hel1
 go_enter Tryz.func3, Tryz.ntmps3
 go_wp2_with fail
 rw [← HW1.out]
 refine Calls.mono (HC1.out _ (Below.refl _ _)) ?_
 rintro e w2 ⟨rfl, hb2⟩
 have D2 := Lib.hid hb2
 clear hb2 HC1
 rw [← HN0.out]
 go_wp2_with fail
 refine Calls.mono (HC2.out _ D2.out) ?_
 rintro e w3 ⟨rfl, rfl⟩
 clear HC2
 obtain ⟨x0, x1, x2, x3⟩ := blk4 (X1.out.below D2.out)
 go_wp2_with fail
 refine Calls.mono (HT1.out _ D2.out) ?_
 rintro e w4 ⟨b41, b42, rfl, hb4, hc4⟩
 have HCC4 := Lib.hid hc4
 have D4 := Lib.hid (D2.out.trans (hb4.mono D2.out.size))
 clear x0 x1 x2 x3 hb4 hc4
 go_wp2_with fail
 refine Calls.mono (HT2.out _ D4.out) ?_
 rintro e w5 ⟨rfl, hb5, -, ho5⟩
 have HCS5 := Lib.hid ho5
 have HCD5 := Lib.hid (HCC4.out.below hb5)
 have D5 := Lib.hid (D4.out.trans (hb5.mono D4.out.size))
 clear hb5 ho5 HCC4
 go_wp2_with fail
 refine Calls.mono (HSPEC.out _ _ _ _ HCD5.out.labels HCD5.out.edges (SliceK.of_owns (enc := encS) (e := 9) encS_len rfl (by rw [flat_encS]; exact own_lower HCS5.out (Nat.zero_le _)))) ?_
 rintro e w6 ⟨hb6, d, xss, code, lvS, evS, vS, vsS, rfl, hisS, hoS0, hoS1⟩
 have HIS := Lib.hid hisS
 have HOS0 := Lib.hid hoS0
 have HOS1 := Lib.hid hoS1
 have D6 := Lib.hid (D5.out.trans (hb6.mono D5.out.size))
 clear hisS hoS0 hoS1 HSPEC hb6
 obtain ⟨alvS, clvS, rfl, -, -⟩ := owns_slice HOS0.out.1
 obtain ⟨aevS, cevS, rfl, -, -⟩ := owns_slice HOS0.out.2
 obtain ⟨w7, hw7⟩ : ∃ w7, w7 = w6.alloc (.cells #[.int .i64 d.states, .int .i64 d.initial, .slice alvS d.labels.length clvS, .slice aevS d.edges.length cevS] 30) := ⟨_, rfl⟩
 have hb7 : Below w6.heap.size w6 w7 := by rw [hw7]; exact boxNew _ _ _
 obtain ⟨kS, hkS⟩ : ∃ kS, kS = w6.heap.size := ⟨_, rfl⟩
 have XS : Hid (Blk w7 kS [.int .i64 d.states, .int .i64 d.initial, .slice alvS d.labels.length clvS, .slice aevS d.edges.length cevS] 30) := by unfold Hid; rw [hw7, hkS]; exact Blk.new _ _ _
 have HKS := Lib.hid hkS
 have HW7 := Lib.hid hw7
 have hzS : w7.heap.size = kS + 1 := by rw [hw7, hkS]; simp
 have HZS := Lib.hid hzS
 have D7 := Lib.hid (D6.out.trans (hb7.mono D6.out.size))
 have E7 := Lib.hid hb7
 clear hb7 hw7 hkS hzS
 have HWS1 : Hid (W1.heap.size ≤ w7.heap.size) := D7.out.size
 have HSS : Hid (w6.heap.size ≤ w7.heap.size) := (E7.out).size
 obtain ⟨x0, x1, x2, x3⟩ := blk4 (X1.out.below D7.out)
 rw [HW7.out] at x0 x1 x2 x3
 go_wp2_with fail
 rw [← HW7.out, ← HKS.out]
 refine Calls.mono (HT1.out _ D7.out) ?_
 rintro e w8 ⟨p11, p12, rfl, hb8, hc8⟩
 have CP1 := Lib.hid hc8
 have HBS1 : Hid (w7.heap.size ≤ w7.heap.size) := ((Below.refl w7.heap.size w7)).size
 have D8 := Lib.hid (D7.out.trans (hb8.mono D7.out.size))
 have E8 := Lib.hid (E7.out.trans (hb8.mono E7.out.size))
 have Y8 := Lib.hid hb8
 clear x0 x1 x2 x3 hb8 hc8
 obtain ⟨w9, hw9⟩ : ∃ w9, w9 = w8.alloc (.cells #[.int .i64 t1.states, .int .i64 t1.initial, .slice (some ⟨p11, 0, none⟩) t1.labels.length t1.labels.length, .slice (some ⟨p12, 0, none⟩) t1.edges.length t1.edges.length] 30) := ⟨_, rfl⟩
 have hb9 : Below w8.heap.size w8 w9 := by rw [hw9]; exact boxNew _ _ _
 obtain ⟨kx1, hkx1⟩ : ∃ kx1, kx1 = w8.heap.size := ⟨_, rfl⟩
 have XC1 : Hid (Blk w9 kx1 [.int .i64 t1.states, .int .i64 t1.initial, .slice (some ⟨p11, 0, none⟩) t1.labels.length t1.labels.length, .slice (some ⟨p12, 0, none⟩) t1.edges.length t1.edges.length] 30) := by unfold Hid; rw [hw9, hkx1]; exact Blk.new _ _ _
 have CQ1 := Lib.hid (CP1.out.below hb9)
 have HKX1 := Lib.hid hkx1
 have HW9 := Lib.hid hw9
 have hb61 : p12 < kx1 := by rw [hkx1]; exact CP1.out.h3
 have HB61 := Lib.hid hb61
 have HZX1 : Hid (w9.heap.size = kx1 + 1) := by unfold Hid; rw [hw9, hkx1]; simp
 have HBX1 : Hid (w7.heap.size ≤ kx1) := by unfold Hid; rw [hkx1]; exact (show w7.heap.size ≤ w8.heap.size from (by have := CP1.out.h1; have := CP1.out.h2; have := CP1.out.h3; omega))
 have D9 := Lib.hid (D8.out.trans (hb9.mono D8.out.size))
 have E9 := Lib.hid (E8.out.trans (hb9.mono E8.out.size))
 have Y9 := Lib.hid (Y8.out.trans (hb9.mono Y8.out.size))
 clear hb9 hw9 hkx1 hb61
 go_wp2_with fail
 rw [← HW9.out, ← HKX1.out]
 refine Calls.mono (HT2.out _ D9.out) ?_
 rintro e w10 ⟨rfl, hb10, hgt10, ho10⟩
 obtain ⟨kv, hkv⟩ : ∃ kv, kv = w9.heap.size := ⟨_, rfl⟩
 rw [← hkv] at ho10 hgt10
 rw [← hkv]
 have SV := Lib.hid ho10
 have HKVB : Hid (kx1 + 1 ≤ kv) := by have := HZX1.out; unfold Hid; omega
 have HKVW : Hid (kv < w10.heap.size) := hgt10
 have D10 := Lib.hid (D9.out.trans (hb10.mono D9.out.size))
 have E10 := Lib.hid (E9.out.trans (hb10.mono E9.out.size))
 have Y10 := Lib.hid (Y9.out.trans (hb10.mono Y9.out.size))
 have P110 := Lib.hid hb10
 clear hb10 hgt10 ho10 hkv
 have HWI1 : Hid (kx1 + 1 ≤ w10.heap.size) := by have := (P110.out).size; have := HZX1.out; unfold Hid; omega
 have HWIS : Hid (w7.heap.size ≤ w10.heap.size) := (Y10.out).size
 have HKVI : Hid (kv + 1 ≤ w10.heap.size) := by have := ((Below.refl w10.heap.size w10)).size; have := HKVW.out; unfold Hid; omega
 obtain ⟨x0, x1, x2, x3⟩ := blk4 (XC1.out.below P110.out)
 have hlt1 := (XC1.out.below P110.out).lt
 have HGO := Lib.hid (HIMPL.out _ _ _ _ (CQ1.out.below P110.out).labels (CQ1.out.below P110.out).edges (SliceK.of_owns (enc := encS) (e := 9) encS_len rfl (by rw [flat_encS]; exact own_lower (owns_below SV.out (Below.refl w10.heap.size w10)) (Nat.zero_le _))) (HG.out.below D10.out))
 go_wp2_with fail
 refine Calls.mono HGO.out ?_
 rintro e w11 ⟨hb11, dg, xssg, codeg, lvG, evG, vG, vsG, rfl, hisG, hoG0, hoG1⟩
 obtain ⟨hq0, hq1, hq2⟩ := HIS.out.unique hisG
 subst hq0 hq1 hq2
 have HOG0 := Lib.hid hoG0
 have HOG1 := Lib.hid hoG1
 have D11 := Lib.hid (D10.out.trans (hb11.mono D10.out.size))
 have E11 := Lib.hid (E10.out.trans (hb11.mono E10.out.size))
 have Y11 := Lib.hid (Y10.out.trans (hb11.mono Y10.out.size))
 have P111 := Lib.hid (P110.out.trans (hb11.mono P110.out.size))
 have S11 := Lib.hid hb11
 have I11 := Lib.hid hb11
 clear hisG hb11 HGO hoG0 hoG1 x0 x1 x2 x3 hlt1
 obtain ⟨alvG, clvG, rfl, -, -⟩ := owns_slice HOG0.out.1
 obtain ⟨aevG, cevG, rfl, -, -⟩ := owns_slice HOG0.out.2
 have HKGI : Hid (w10.heap.size ≤ w11.heap.size) := (I11.out).size
 obtain ⟨w12, hw12⟩ : ∃ w12, w12 = w11.alloc (.cells #[.int .i64 d.states, .int .i64 d.initial, .slice alvG d.labels.length clvG, .slice aevG d.edges.length cevG] 30) := ⟨_, rfl⟩
 have hb12 : Below w11.heap.size w11 w12 := by rw [hw12]; exact boxNew _ _ _
 obtain ⟨kG, hkG⟩ : ∃ kG, kG = w11.heap.size := ⟨_, rfl⟩
 have XG : Hid (Blk w12 kG [.int .i64 d.states, .int .i64 d.initial, .slice alvG d.labels.length clvG, .slice aevG d.edges.length cevG] 30) := by unfold Hid; rw [hw12, hkG]; exact Blk.new _ _ _
 have HKG := Lib.hid hkG
 have HW12 := Lib.hid hw12
 have hzG : w12.heap.size = kG + 1 := by rw [hw12, hkG]; simp
 have HZG := Lib.hid hzG
 have D12 := Lib.hid (D11.out.trans (hb12.mono D11.out.size))
 have E12 := Lib.hid (E11.out.trans (hb12.mono E11.out.size))
 have Y12 := Lib.hid (Y11.out.trans (hb12.mono Y11.out.size))
 have P112 := Lib.hid (P111.out.trans (hb12.mono P111.out.size))
 have S12 := Lib.hid (S11.out.trans (hb12.mono S11.out.size))
 have I12 := Lib.hid (I11.out.trans (hb12.mono I11.out.size))
 have G12 := Lib.hid hb12
 clear hb12 hw12 hkG hzG
 rw [← HKG.out] at HKGI
 obtain ⟨u0, u1, u2, u3⟩ := blk4 (XG.out.below (Below.refl w12.heap.size w12))
 obtain ⟨v0, v1, v2, v3⟩ := blk4 (XS.out.below Y12.out)
 have hltu := (XG.out.below (Below.refl w12.heap.size w12)).lt
 have hltv := (XS.out.below Y12.out).lt
 rw [HW12.out] at v0 v1 v2 v3
 go_wp2_with fail
 rw [← HW12.out, ← HKG.out]
 refine (eqLts_same _ _ _ _ d _ ((HOG0.out.below G12.out).at) ((HOS0.out.below E12.out).at)).mono ?_
 rintro e w13 ⟨rfl, hb13⟩
 have D13 := Lib.hid (D12.out.trans (hb13.mono D12.out.size))
 have E13 := Lib.hid (E12.out.trans (hb13.mono E12.out.size))
 have Y13 := Lib.hid (Y12.out.trans (hb13.mono Y12.out.size))
 have P113 := Lib.hid (P112.out.trans (hb13.mono P112.out.size))
 have S13 := Lib.hid (S12.out.trans (hb13.mono S12.out.size))
 have I13 := Lib.hid (I12.out.trans (hb13.mono I12.out.size))
 have G13 := Lib.hid (G12.out.trans (hb13.mono G12.out.size))
 have Q13 := Lib.hid hb13
 clear hb13 u0 u1 u2 u3 v0 v1 v2 v3 hltu hltv
 go_wp2_with fail
 refine (eqInt64SS_same _ _ _ _ xss _ ((HOG1.out.below G13.out).at) ((HOS1.out.below E13.out).at)).mono ?_
 rintro e w14 ⟨rfl, hb14⟩
 have D14 := Lib.hid (D13.out.trans (hb14.mono D13.out.size))
 have E14 := Lib.hid (E13.out.trans (hb14.mono E13.out.size))
 have Y14 := Lib.hid (Y13.out.trans (hb14.mono Y13.out.size))
 have P114 := Lib.hid (P113.out.trans (hb14.mono P113.out.size))
 have S14 := Lib.hid (S13.out.trans (hb14.mono S13.out.size))
 have I14 := Lib.hid (I13.out.trans (hb14.mono I13.out.size))
 have G14 := Lib.hid (G13.out.trans (hb14.mono G13.out.size))
 have Q14 := Lib.hid (Q13.out.trans (hb14.mono Q13.out.size))
 clear hb14
 go_wp2_with fail
 have hDd : Below W1.heap.size W1 w14.drew := D14.out.drew
 have hPd := (P114.out).drew
 have G0 : Hid (w14.cell? ⟨kx1, 0, none⟩ = some (.int .i64 t1.states) ∧ w14.cell? ⟨kx1, 1, none⟩ = some (.int .i64 t1.initial) ∧ w14.cell? ⟨kx1, 2, none⟩ = some (.slice (some ⟨p11, 0, none⟩) t1.labels.length t1.labels.length) ∧ w14.cell? ⟨kx1, 3, none⟩ = some (.slice (some ⟨p12, 0, none⟩) t1.edges.length t1.edges.length) ∧ w14.cell? ⟨n0, 0, none⟩ = some (.int .i64 t1.states) ∧ w14.cell? ⟨n0, 1, none⟩ = some (.int .i64 t1.initial) ∧ w14.cell? ⟨n0, 2, none⟩ = some (l1) ∧ w14.cell? ⟨n0, 3, none⟩ = some (e1)) := ⟨(XC1.out.below P114.out).cell 0 rfl, (XC1.out.below P114.out).cell 1 rfl, (XC1.out.below P114.out).cell 2 rfl, (XC1.out.below P114.out).cell 3 rfl, (X1.out.below D14.out).cell 0 rfl, (X1.out.below D14.out).cell 1 rfl, (X1.out.below D14.out).cell 2 rfl, (X1.out.below D14.out).cell 3 rfl⟩
 have G1 : Hid (w14.drew.cell? ⟨kx1, 0, none⟩ = some (.int .i64 t1.states) ∧ w14.drew.cell? ⟨kx1, 1, none⟩ = some (.int .i64 t1.initial) ∧ w14.drew.cell? ⟨kx1, 2, none⟩ = some (.slice (some ⟨p11, 0, none⟩) t1.labels.length t1.labels.length) ∧ w14.drew.cell? ⟨kx1, 3, none⟩ = some (.slice (some ⟨p12, 0, none⟩) t1.edges.length t1.edges.length) ∧ w14.drew.cell? ⟨n0, 0, none⟩ = some (.int .i64 t1.states) ∧ w14.drew.cell? ⟨n0, 1, none⟩ = some (.int .i64 t1.initial) ∧ w14.drew.cell? ⟨n0, 2, none⟩ = some (l1) ∧ w14.drew.cell? ⟨n0, 3, none⟩ = some (e1)) := ⟨(XC1.out.below hPd).cell 0 rfl, (XC1.out.below hPd).cell 1 rfl, (XC1.out.below hPd).cell 2 rfl, (XC1.out.below hPd).cell 3 rfl, (X1.out.below hDd).cell 0 rfl, (X1.out.below hDd).cell 1 rfl, (X1.out.below hDd).cell 2 rfl, (X1.out.below hDd).cell 3 rfl⟩
 go_region_held3 (fun w' => w'.cell? ⟨kx1, 0, none⟩ = some (.int .i64 t1.states) ∧ w'.cell? ⟨kx1, 1, none⟩ = some (.int .i64 t1.initial) ∧ w'.cell? ⟨kx1, 2, none⟩ = some (.slice (some ⟨p11, 0, none⟩) t1.labels.length t1.labels.length) ∧ w'.cell? ⟨kx1, 3, none⟩ = some (.slice (some ⟨p12, 0, none⟩) t1.edges.length t1.edges.length) ∧ w'.cell? ⟨n0, 0, none⟩ = some (.int .i64 t1.states) ∧ w'.cell? ⟨n0, 1, none⟩ = some (.int .i64 t1.initial) ∧ w'.cell? ⟨n0, 2, none⟩ = some (l1) ∧ w'.cell? ⟨n0, 3, none⟩ = some (e1))
  (first | exact G0.out | exact G1.out | exact G2.out | exact G3.out | go_keep)
  (first
   | (go_at_call 12; refine Calls.mono (HT1.out _ hDd) ?_; rintro e w15 ⟨b151, b152, rfl, hb15, hc15⟩; have hD2 := hDd.trans (hb15.mono hDd.size); have hP2 := hPd.trans (hb15.mono hPd.size); have G2 : Hid (w15.cell? ⟨kx1, 0, none⟩ = some (.int .i64 t1.states) ∧ w15.cell? ⟨kx1, 1, none⟩ = some (.int .i64 t1.initial) ∧ w15.cell? ⟨kx1, 2, none⟩ = some (.slice (some ⟨p11, 0, none⟩) t1.labels.length t1.labels.length) ∧ w15.cell? ⟨kx1, 3, none⟩ = some (.slice (some ⟨p12, 0, none⟩) t1.edges.length t1.edges.length) ∧ w15.cell? ⟨n0, 0, none⟩ = some (.int .i64 t1.states) ∧ w15.cell? ⟨n0, 1, none⟩ = some (.int .i64 t1.initial) ∧ w15.cell? ⟨n0, 2, none⟩ = some (l1) ∧ w15.cell? ⟨n0, 3, none⟩ = some (e1)) := ⟨(XC1.out.below hP2).cell 0 rfl, (XC1.out.below hP2).cell 1 rfl, (XC1.out.below hP2).cell 2 rfl, (XC1.out.below hP2).cell 3 rfl, (X1.out.below hD2).cell 0 rfl, (X1.out.below hD2).cell 1 rfl, (X1.out.below hD2).cell 2 rfl, (X1.out.below hD2).cell 3 rfl⟩)
   | (go_at_call 15; refine (eqLts_same _ _ 0 0 t1 _ (CQ1.out.below hP2).at hc15.at).mono ?_; rintro e w16 ⟨rfl, hb16⟩; have hD3 := hD2.trans (hb16.mono hD2.size); have hP3 := hP2.trans (hb16.mono hP2.size); have G3 : Hid (w16.cell? ⟨kx1, 0, none⟩ = some (.int .i64 t1.states) ∧ w16.cell? ⟨kx1, 1, none⟩ = some (.int .i64 t1.initial) ∧ w16.cell? ⟨kx1, 2, none⟩ = some (.slice (some ⟨p11, 0, none⟩) t1.labels.length t1.labels.length) ∧ w16.cell? ⟨kx1, 3, none⟩ = some (.slice (some ⟨p12, 0, none⟩) t1.edges.length t1.edges.length) ∧ w16.cell? ⟨n0, 0, none⟩ = some (.int .i64 t1.states) ∧ w16.cell? ⟨n0, 1, none⟩ = some (.int .i64 t1.initial) ∧ w16.cell? ⟨n0, 2, none⟩ = some (l1) ∧ w16.cell? ⟨n0, 3, none⟩ = some (e1)) := ⟨(XC1.out.below hP3).cell 0 rfl, (XC1.out.below hP3).cell 1 rfl, (XC1.out.below hP3).cell 2 rfl, (XC1.out.below hP3).cell 3 rfl, (X1.out.below hD3).cell 0 rfl, (X1.out.below hD3).cell 1 rfl, (X1.out.below hD3).cell 2 rfl, (X1.out.below hD3).cell 3 rfl⟩))
 have hall16 : Below w14.heap.size w14 w16 := (((Below.refl w14.heap.size w14).drew).trans (hb15.mono (by simp))).trans (hb16.mono (Nat.le_trans (by simp) hb15.size))
 have D16 := Lib.hid (D14.out.trans (hall16.mono D14.out.size))
 have E16 := Lib.hid (E14.out.trans (hall16.mono E14.out.size))
 have Y16 := Lib.hid (Y14.out.trans (hall16.mono Y14.out.size))
 have P116 := Lib.hid (P114.out.trans (hall16.mono P114.out.size))
 have S16 := Lib.hid (S14.out.trans (hall16.mono S14.out.size))
 have I16 := Lib.hid (I14.out.trans (hall16.mono I14.out.size))
 have G16 := Lib.hid (G14.out.trans (hall16.mono G14.out.size))
 have Q16 := Lib.hid (Q14.out.trans (hall16.mono Q14.out.size))
 clear hDd hPd hD2 hP2 hD3 hP3 G0 G1 G2 G3 hall16 hb15 hc15 hb16
 go_wp2_with fail
 refine Calls.mono (HT2.out _ D16.out) ?_
 rintro e w17 ⟨rfl, hb17, -, ho17⟩
 have HCS17 := Lib.hid ho17
 have D17 := Lib.hid (D16.out.trans (hb17.mono D16.out.size))
 have E17 := Lib.hid (E16.out.trans (hb17.mono E16.out.size))
 have Y17 := Lib.hid (Y16.out.trans (hb17.mono Y16.out.size))
 have P117 := Lib.hid (P116.out.trans (hb17.mono P116.out.size))
 have S17 := Lib.hid (S16.out.trans (hb17.mono S16.out.size))
 have I17 := Lib.hid (I16.out.trans (hb17.mono I16.out.size))
 have G17 := Lib.hid (G16.out.trans (hb17.mono G16.out.size))
 have Q17 := Lib.hid (Q16.out.trans (hb17.mono Q16.out.size))
 clear hb17 ho17
 go_wp2_with fail
 refine (eqStringS_same _ _ 0 0 ins _ (SliceK.of_owns (enc := encS) (e := 9) encS_len rfl (by rw [flat_encS]; exact own_lower (owns_below SV.out S17.out) (Nat.zero_le _))) (SliceK.of_owns (enc := encS) (e := 9) encS_len rfl (by rw [flat_encS]; exact own_lower HCS17.out (Nat.zero_le _)))).mono ?_
 rintro e w18 ⟨rfl, hb18⟩
 have D18 := Lib.hid (D17.out.trans (hb18.mono D17.out.size))
 have E18 := Lib.hid (E17.out.trans (hb18.mono E17.out.size))
 have Y18 := Lib.hid (Y17.out.trans (hb18.mono Y17.out.size))
 have P118 := Lib.hid (P117.out.trans (hb18.mono P117.out.size))
 have S18 := Lib.hid (S17.out.trans (hb18.mono S17.out.size))
 have I18 := Lib.hid (I17.out.trans (hb18.mono I17.out.size))
 have G18 := Lib.hid (G17.out.trans (hb18.mono G17.out.size))
 have Q18 := Lib.hid (Q17.out.trans (hb18.mono Q17.out.size))
 clear hb18
 have HWIc : Hid (w10.heap.size ≤ w18.heap.size) := (I18.out).size
 have hcq := CQ1.out.below P118.out
 have hln := HLN1.out
 have hb6 := HB61.out
 have hbx := HBX1.out
 have hkl := (XC1.out.below P118.out).lt
 obtain ⟨N1, hN1⟩ : ∃ N : Int, N = 1 + (t1.labels.length : Int) + 3 * (t1.edges.length : Int) := ⟨_, rfl⟩
 have hNz1 : 0 ≤ N1 := by omega
 have hNb1 : N1 ≤ 5000000 := by omega
 have HM := Lib.hid (markLts_any w7.heap.size kx1 p11 p12 t1.labels.length t1.edges.length t1.states t1.initial _ _ 1 w18 (by decide) (by omega) hcq.h1 (by have := hcq.h2; omega) (by have := hcq.h1; have := hcq.h2; omega) hb6 (by omega) (by have := hcq.h2; omega) hcq.o1 (own_lower hcq.o2 (by have := hcq.h1; have := hcq.h2; omega)))
 rw [← hN1] at HM
 have HN1 := Lib.hid hN1
 have hlow := hcq.h1
 have HLW : Hid (w7.heap.size ≤ w18.heap.size) := by unfold Hid; omega
 obtain ⟨x0, x1, x2, x3⟩ := blk4 (XC1.out.below P118.out)
 clear hcq hln hb6 hbx hlow hN1
 go_wp2_with fail
 refine Calls.mono HM.out ?_
 rintro e w19 ⟨rfl, ht19⟩
 have hb19 : Below w7.heap.size w18 w19 := below_turns ht19 HLW.out
 have D19 := Lib.hid (D18.out.trans (hb19.mono (show W1.heap.size ≤ w7.heap.size from by have := HWS1.out; have := HBS1.out; omega)))
 have E19 := Lib.hid ((E18.out).trans (hb19.mono (show w6.heap.size ≤ w7.heap.size from by have := HBS1.out; have := HSS.out; omega)))
 have Y19 := Lib.hid ((Y18.out).trans (hb19.mono (show w7.heap.size ≤ w7.heap.size from by have := HBS1.out; have := HSS.out; omega)))
 have SV' := Lib.hid (owns_turns (owns_below SV.out S18.out) ht19 (fun b e => .inr (by have h : kv = b := (by simpa [Value.ownBlock] using e); have := HKVB.out; omega)))
 clear SV
 have SV := SV'
 clear SV'
 have HOGx0 := Lib.hid ((HOG0.out.below G18.out).turns ht19 (show kx1 ≤ w10.heap.size from by have := HZX1.out; have := HWI1.out; omega))
 clear HOG0
 have HOG0 := HOGx0
 clear HOGx0
 have HOGx1 := Lib.hid ((HOG1.out.below G18.out).turns ht19 (show kx1 ≤ w10.heap.size from by have := HZX1.out; have := HWI1.out; omega))
 clear HOG1
 have HOG1 := HOGx1
 clear HOGx1
 have XGx : Hid (Blk w19 kG _ 30) := (XG.out.below Q18.out).turns ht19 (.inr (show kx1 ≤ kG from by have := HZX1.out; have := HWI1.out; have := HKGI.out; omega))
 clear XG
 have XG := XGx
 clear XGx
 have HWM19 : Hid (w10.heap.size ≤ w19.heap.size) := by have := HWIc.out; have := ht19.size; unfold Hid; omega
 clear HWIc
 have HWIc := HWM19
 clear HWM19
 clear x0 x1 x2 x3 hkl HM HLW hb19 ht19
 obtain ⟨N2, hN2⟩ : ∃ N : Int, N = N1 + (ins.length : Int) := ⟨_, rfl⟩
 have hln2 := HLN2.out
 have hNz2 : 0 ≤ N2 := by omega
 have HM := Lib.hid (markStringS_is kv (.slice (some ⟨kv, 0, none⟩) ins.length ins.length) (ins.map Value.string) N1 w19 hNz1 (by rw [List.length_map]; omega) (by rw [List.length_map]; exact owns_below SV.out (Below.refl w19.heap.size w19)))
 rw [List.length_map, ← hN2] at HM
 have HLW : Hid (kv ≤ w19.heap.size) := by have := ((Below.refl w19.heap.size w19)).size; have := HKVI.out; have := HWIc.out; unfold Hid; omega
 clear hN2 hln2
 go_wp2_with fail
 refine Calls.mono HM.out ?_
 rintro e w20 ⟨rfl, hgr20, -⟩
 have ht20 : Turns kv (kv + 1) w19 w20 := turns_one hgr20
 have hb20 : Below kv w19 w20 := below_turns ht20 HLW.out
 have D20 := Lib.hid (D19.out.trans (hb20.mono (show W1.heap.size ≤ kv from by have := HWS1.out; have := HBS1.out; have := HBX1.out; have := HKVB.out; omega)))
 have E20 := Lib.hid ((E19.out).trans (hb20.mono (show w6.heap.size ≤ kv from by have := HSS.out; have := HBS1.out; have := HBX1.out; have := HKVB.out; omega)))
 have Y20 := Lib.hid ((Y19.out).trans (hb20.mono (show w7.heap.size ≤ kv from by have := HSS.out; have := HBS1.out; have := HBX1.out; have := HKVB.out; omega)))
 have HOGx0 := Lib.hid ((HOG0.out.below (Below.refl w19.heap.size w19)).turns ht20 HKVI.out)
 clear HOG0
 have HOG0 := HOGx0
 clear HOGx0
 have HOGx1 := Lib.hid ((HOG1.out.below (Below.refl w19.heap.size w19)).turns ht20 HKVI.out)
 clear HOG1
 have HOG1 := HOGx1
 clear HOGx1
 have XGx : Hid (Blk w20 kG _ 30) := (XG.out.below (Below.refl w19.heap.size w19)).turns ht20 (.inr (show kv + 1 ≤ kG from by have := HKVI.out; have := HKGI.out; omega))
 clear XG
 have XG := XGx
 clear XGx
 have HWM20 : Hid (w10.heap.size ≤ w20.heap.size) := by have := HWIc.out; have := ht20.size; unfold Hid; omega
 clear HWIc
 have HWIc := HWM20
 clear HWM20
 clear HM HLW hb20 ht20 hgr20
 obtain ⟨u0, u1, u2, u3⟩ := blk4 (XG.out.below (Below.refl w20.heap.size w20))
 obtain ⟨v0, v1, v2, v3⟩ := blk4 (XS.out.below Y20.out)
 have hltu := (XG.out.below (Below.refl w20.heap.size w20)).lt
 have hltv := (XS.out.below Y20.out).lt
 go_wp2_with fail
 refine (eqLts_same _ _ _ _ d _ ((HOG0.out.below (Below.refl w20.heap.size w20)).at) ((HOS0.out.below E20.out).at)).mono ?_
 rintro e w21 ⟨rfl, hb21⟩
 have D21 := Lib.hid (D20.out.trans (hb21.mono D20.out.size))
 have E21 := Lib.hid (E20.out.trans (hb21.mono E20.out.size))
 have Y21 := Lib.hid (Y20.out.trans (hb21.mono Y20.out.size))
 have G21 := Lib.hid hb21
 have Q21 := Lib.hid hb21
 clear hb21 u0 u1 u2 u3 v0 v1 v2 v3 hltu hltv
 go_wp2_with fail
 refine (eqInt64SS_same _ _ _ _ xss _ ((HOG1.out.below G21.out).at) ((HOS1.out.below E21.out).at)).mono ?_
 rintro e w22 ⟨rfl, hb22⟩
 have D22 := Lib.hid (D21.out.trans (hb22.mono D21.out.size))
 have E22 := Lib.hid (E21.out.trans (hb22.mono E21.out.size))
 have Y22 := Lib.hid (Y21.out.trans (hb22.mono Y21.out.size))
 have G22 := Lib.hid (G21.out.trans (hb22.mono G21.out.size))
 have Q22 := Lib.hid (Q21.out.trans (hb22.mono Q21.out.size))
 clear hb22
 have hwI : w10.heap.size ≤ w22.heap.size := by have := HWIc.out; have := (G22.out).size; omega
 have hfew := HIS.out.few
 obtain ⟨Z0, hZ0⟩ : ∃ Z : Int, Z = 1 + markLen d := ⟨_, rfl⟩
 have hZz0 : 0 ≤ Z0 ∧ Z0 ≤ 10000000 := by unfold markLen at *; omega
 have HMK := Lib.hid (markLts_is w10.heap.size _ _ d d.states d.initial 1 _ (by decide) (by omega) hwI (HOG0.out.below G22.out))
 rw [← hZ0] at HMK
 have HZZ0 := Lib.hid hZ0
 obtain ⟨u0, u1, u2, u3⟩ := blk4 (XG.out.below Q22.out)
 have hltu := (XG.out.below Q22.out).lt
 clear hZ0
 go_wp2_with fail
 refine Calls.mono HMK.out ?_
 rintro e w23 ⟨rfl, hb23, hom, hon⟩
 have HOM := Lib.hid hom
 have HON := Lib.hid hon
 have D23 := Lib.hid (D22.out.trans (hb23.mono (show W1.heap.size ≤ w10.heap.size from by have := HWS1.out; have := HWIS.out; omega)))
 have E23 := Lib.hid ((E22.out).trans (hb23.mono (show w6.heap.size ≤ w10.heap.size from by have := HWIS.out; have := HSS.out; omega)))
 have Y23 := Lib.hid ((Y22.out).trans (hb23.mono (show w7.heap.size ≤ w10.heap.size from by have := HWIS.out; have := HSS.out; omega)))
 have HOGx1 := Lib.hid (HON.out.intss (HOG1.out.below G22.out) (by decide) (by decide))
 clear HOG1
 have HOG1 := HOGx1
 clear HOGx1
 clear HOG0
 have HOG0 := HOM
 clear HOM
 have XGx : Hid (Blk w23 kG _ 30) := HON.out.blk (XG.out.below Q22.out) (by decide)
 clear XG
 have XG := XGx
 clear XGx
 have hwI' : w10.heap.size ≤ w23.heap.size := Nat.le_trans hwI hb23.size
 clear hwI hb23 hom hon HON HMK u0 u1 u2 u3 hltu
 have hwI := hwI'
 clear hwI'
 obtain ⟨Z1, hZ1⟩ : ∃ Z : Int, Z = Z0 + (total xss : Int) := ⟨_, rfl⟩
 have hZz1 : 0 ≤ Z1 ∧ Z1 ≤ 20000000 := by omega
 have HMK := Lib.hid (markInt64SS_is w10.heap.size _ _ xss Z0 _ hZz0.1 (by omega) hwI (HOG1.out.below (Below.refl w23.heap.size w23)))
 rw [← hZ1] at HMK
 have HZZ1 := Lib.hid hZ1
 clear hZ1
 go_wp2_with fail
 refine Calls.mono HMK.out ?_
 rintro e w24 ⟨rfl, hb24, hom, hon⟩
 have HOM := Lib.hid hom
 have HON := Lib.hid hon
 have D24 := Lib.hid (D23.out.trans (hb24.mono (show W1.heap.size ≤ w10.heap.size from by have := HWS1.out; have := HWIS.out; omega)))
 have E24 := Lib.hid ((E23.out).trans (hb24.mono (show w6.heap.size ≤ w10.heap.size from by have := HWIS.out; have := HSS.out; omega)))
 have Y24 := Lib.hid ((Y23.out).trans (hb24.mono (show w7.heap.size ≤ w10.heap.size from by have := HWIS.out; have := HSS.out; omega)))
 have HOGx0 := Lib.hid (HON.out.lts (HOG0.out.below (Below.refl w23.heap.size w23)) (by decide) (by decide))
 clear HOG0
 have HOG0 := HOGx0
 clear HOGx0
 clear HOG1
 have HOG1 := HOM
 clear HOM
 have XGx : Hid (Blk w24 kG _ 30) := HON.out.blk (XG.out.below (Below.refl w23.heap.size w23)) (by decide)
 clear XG
 have XG := XGx
 clear XGx
 have hwI' : w10.heap.size ≤ w24.heap.size := Nat.le_trans hwI hb24.size
 clear hwI hb24 hom hon HON HMK
 have hwI := hwI'
 clear hwI'
 obtain ⟨u0, u1, u2, u3⟩ := blk4 (XG.out.below (Below.refl w24.heap.size w24))
 have hltu := (XG.out.below (Below.refl w24.heap.size w24)).lt
 have HHE := Lib.hid (heldLts_is w10.heap.size _ _ d d.states d.initial 1 _ (by decide) (by have := HZZ0.out; have := hZz0; omega) (HOG0.out.below (Below.refl w24.heap.size w24)))
 rw [← HZZ0.out] at HHE
 go_wp2_with fail
 refine Calls.mono HHE.out ?_
 rintro e w25 ⟨rfl, hb25⟩
 have D25 := Lib.hid (D24.out.trans (hb25.mono D24.out.size))
 have E25 := Lib.hid (E24.out.trans (hb25.mono E24.out.size))
 have Y25 := Lib.hid (Y24.out.trans (hb25.mono Y24.out.size))
 have G25 := Lib.hid hb25
 have Q25 := Lib.hid hb25
 clear hb25 HHE
 clear u0 u1 u2 u3 hltu
 have HHE := Lib.hid (heldInt64SS_same _ _ xss Z0 _ hZz0.1 (by have := HZZ1.out; have := hZz1; omega) (HOG1.out.below G25.out).at)
 rw [← HZZ1.out] at HHE
 go_wp2_with fail
 refine Calls.mono HHE.out ?_
 rintro e w26 ⟨rfl, rfl⟩
 have hb26 := Below.refl w25.heap.size w25
 clear hb26 HHE
 obtain ⟨x0, x1, x2, x3⟩ := blk4 (X1.out.below D25.out)
 go_wp2_with fail
 refine Calls.mono (HT1.out _ D25.out) ?_
 rintro e w27 ⟨b271, b272, rfl, hb27, hc27⟩
 have HCC27 := Lib.hid hc27
 have D27 := Lib.hid (D25.out.trans (hb27.mono D25.out.size))
 have E27 := Lib.hid (E25.out.trans (hb27.mono E25.out.size))
 have Y27 := Lib.hid (Y25.out.trans (hb27.mono Y25.out.size))
 have G27 := Lib.hid (G25.out.trans (hb27.mono G25.out.size))
 have Q27 := Lib.hid (Q25.out.trans (hb27.mono Q25.out.size))
 clear x0 x1 x2 x3 hb27 hc27
 go_wp2_with fail
 refine Calls.mono (HT2.out _ D27.out) ?_
 rintro e w28 ⟨rfl, hb28, -, ho28⟩
 have HCS28 := Lib.hid ho28
 have HCD28 := Lib.hid (HCC27.out.below hb28)
 have D28 := Lib.hid (D27.out.trans (hb28.mono D27.out.size))
 have E28 := Lib.hid (E27.out.trans (hb28.mono E27.out.size))
 have Y28 := Lib.hid (Y27.out.trans (hb28.mono Y27.out.size))
 have G28 := Lib.hid (G27.out.trans (hb28.mono G27.out.size))
 have Q28 := Lib.hid (Q27.out.trans (hb28.mono Q27.out.size))
 clear hb28 ho28 HCC27
 go_wp2_with fail
 refine Calls.mono (HIMPL.out _ _ _ _ HCD28.out.labels HCD28.out.edges (SliceK.of_owns (enc := encS) (e := 9) encS_len rfl (by rw [flat_encS]; exact own_lower HCS28.out (Nat.zero_le _))) (HG.out.below D28.out)) ?_
 rintro e w29 ⟨hb29, dh, xssh, codeh, lvH, evH, vH, vsH, rfl, hisH, hoH0, hoH1⟩
 obtain ⟨hq0, hq1, hq2⟩ := HIS.out.unique hisH
 subst hq0 hq1 hq2
 have HOH0 := Lib.hid hoH0
 have HOH1 := Lib.hid hoH1
 have D29 := Lib.hid (D28.out.trans (hb29.mono D28.out.size))
 have E29 := Lib.hid (E28.out.trans (hb29.mono E28.out.size))
 have Y29 := Lib.hid (Y28.out.trans (hb29.mono Y28.out.size))
 have G29 := Lib.hid (G28.out.trans (hb29.mono G28.out.size))
 have Q29 := Lib.hid (Q28.out.trans (hb29.mono Q28.out.size))
 clear hisH hoH0 hoH1 hb29
 obtain ⟨alvH, clvH, rfl, -, -⟩ := owns_slice HOH0.out.1
 obtain ⟨aevH, cevH, rfl, -, -⟩ := owns_slice HOH0.out.2
 obtain ⟨w30, hw30⟩ : ∃ w30, w30 = w29.alloc (.cells #[.int .i64 d.states, .int .i64 d.initial, .slice alvH d.labels.length clvH, .slice aevH d.edges.length cevH] 30) := ⟨_, rfl⟩
 have hb30 : Below w29.heap.size w29 w30 := by rw [hw30]; exact boxNew _ _ _
 obtain ⟨kH, hkH⟩ : ∃ kH, kH = w29.heap.size := ⟨_, rfl⟩
 have XH : Hid (Blk w30 kH [.int .i64 d.states, .int .i64 d.initial, .slice alvH d.labels.length clvH, .slice aevH d.edges.length cevH] 30) := by unfold Hid; rw [hw30, hkH]; exact Blk.new _ _ _
 have HKH := Lib.hid hkH
 have HW30 := Lib.hid hw30
 have hzH : w30.heap.size = kH + 1 := by rw [hw30, hkH]; simp
 have HZH := Lib.hid hzH
 have D30 := Lib.hid (D29.out.trans (hb30.mono D29.out.size))
 have E30 := Lib.hid (E29.out.trans (hb30.mono E29.out.size))
 have Y30 := Lib.hid (Y29.out.trans (hb30.mono Y29.out.size))
 have G30 := Lib.hid (G29.out.trans (hb30.mono G29.out.size))
 have Q30 := Lib.hid (Q29.out.trans (hb30.mono Q29.out.size))
 have H30 := Lib.hid hb30
 clear hb30 hw30 hkH hzH
 obtain ⟨u0, u1, u2, u3⟩ := blk4 (XH.out.below (Below.refl w30.heap.size w30))
 obtain ⟨v0, v1, v2, v3⟩ := blk4 (XS.out.below Y30.out)
 have hltu := (XH.out.below (Below.refl w30.heap.size w30)).lt
 have hltv := (XS.out.below Y30.out).lt
 rw [HW30.out] at v0 v1 v2 v3
 go_wp2_with fail
 rw [← HW30.out, ← HKH.out]
 refine (eqLts_same _ _ _ _ d _ ((HOH0.out.below H30.out).at) ((HOS0.out.below E30.out).at)).mono ?_
 rintro e w31 ⟨rfl, hb31⟩
 have D31 := Lib.hid (D30.out.trans (hb31.mono D30.out.size))
 have E31 := Lib.hid (E30.out.trans (hb31.mono E30.out.size))
 have Y31 := Lib.hid (Y30.out.trans (hb31.mono Y30.out.size))
 have G31 := Lib.hid (G30.out.trans (hb31.mono G30.out.size))
 have Q31 := Lib.hid (Q30.out.trans (hb31.mono Q30.out.size))
 have H31 := Lib.hid (H30.out.trans (hb31.mono H30.out.size))
 have V31 := Lib.hid hb31
 clear hb31 u0 u1 u2 u3 v0 v1 v2 v3 hltu hltv
 go_wp2_with fail
 refine (eqInt64SS_same _ _ _ _ xss _ ((HOH1.out.below H31.out).at) ((HOS1.out.below E31.out).at)).mono ?_
 rintro e w32 ⟨rfl, hb32⟩
 have D32 := Lib.hid (D31.out.trans (hb32.mono D31.out.size))
 have E32 := Lib.hid (E31.out.trans (hb32.mono E31.out.size))
 have Y32 := Lib.hid (Y31.out.trans (hb32.mono Y31.out.size))
 have G32 := Lib.hid (G31.out.trans (hb32.mono G31.out.size))
 have Q32 := Lib.hid (Q31.out.trans (hb32.mono Q31.out.size))
 have H32 := Lib.hid (H31.out.trans (hb32.mono H31.out.size))
 have V32 := Lib.hid (V31.out.trans (hb32.mono V31.out.size))
 clear hb32
 obtain ⟨u0, u1, u2, u3⟩ := blk4 (XG.out.below Q32.out)
 have hltu := (XG.out.below Q32.out).lt
 have HHE := Lib.hid (heldLts_is w10.heap.size _ _ d d.states d.initial 1 _ (by decide) (by have := HZZ0.out; have := hZz0; omega) (HOG0.out.below G32.out))
 rw [← HZZ0.out] at HHE
 go_wp2_with fail
 refine Calls.mono HHE.out ?_
 rintro e w33 ⟨rfl, hb33⟩
 have D33 := Lib.hid (D32.out.trans (hb33.mono D32.out.size))
 have E33 := Lib.hid (E32.out.trans (hb33.mono E32.out.size))
 have Y33 := Lib.hid (Y32.out.trans (hb33.mono Y32.out.size))
 have G33 := Lib.hid (G32.out.trans (hb33.mono G32.out.size))
 have Q33 := Lib.hid (Q32.out.trans (hb33.mono Q32.out.size))
 have H33 := Lib.hid (H32.out.trans (hb33.mono H32.out.size))
 have V33 := Lib.hid (V32.out.trans (hb33.mono V32.out.size))
 clear hb33 HHE
 clear u0 u1 u2 u3 hltu
 have HHE := Lib.hid (heldInt64SS_same _ _ xss Z0 _ hZz0.1 (by have := HZZ1.out; have := hZz1; omega) (HOG1.out.below G33.out).at)
 rw [← HZZ1.out] at HHE
 go_wp2_with fail
 refine Calls.mono HHE.out ?_
 rintro e w34 ⟨rfl, rfl⟩
 have hb34 := Below.refl w33.heap.size w33
 clear hb34 HHE
 go_wp2_with fail
 go_ret
 exact ⟨rfl, HB1.out.trans (D33.out.mono HB1.out.size)⟩

end Go.Proofs.YtkbgncenjfebdaaGreatDoor
