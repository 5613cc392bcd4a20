/-
  For all arguments the law FnExactCoveringTests answers true: the walk that joins both sides.
-/
import Derived.Test.YtkbgncenjfebdaaGreatDoorV22
import Derived.Test.YtkbgncenjfebdaaGreatDoorV28
import Derived.Test.YtkbgncenjfebdaaGreatDoorV29
import Derived.Deep.RegionHeld3
namespace Go.Proofs.YtkbgncenjfebdaaGreatDoor
open Go Go.RowKit

set_option maxRecDepth 100000 in
set_option maxHeartbeats 4000000 in
theorem lawCoveringTests (lo : Nat) (t1 : Lts) (l1 e1 : Value) (v2 : Value) (ins : List ByteArray) (w : World) (hs1 : SliceK 1 encS lo w l1 t1.labels) (he1 : SliceK 3 encE lo w e1 t1.edges) (hk1 : StrsOk t1.labels) (hs2 : SliceK 1 encS lo w v2 ins) (hk2 : StrsOk ins) (g : Glob w) :
  Calls Tryz.prog 6 #[.agg #[.int .i64 t1.states, .int .i64 t1.initial, l1, e1], v2] w fun e w' => e = .returned (.bool true) ∧ Below w.heap.size w w' := by
 obtain ⟨n0, hn0⟩ : ∃ n0, n0 = w.heap.size := ⟨_, rfl⟩
 obtain ⟨W1, hW1⟩ : ∃ W1, W1 = (w.alloc (.cells #[.int .i64 t1.states, .int .i64 t1.initial, l1, e1] 25)) := ⟨_, rfl⟩
 have hB1 : Below w.heap.size w W1 := by rw [hW1]; exact ((Below.refl _ _).alloc (by simp) _)
 have hX1 : Blk W1 (n0) [.int .i64 t1.states, .int .i64 t1.initial, l1, e1] 25 := by
  have h := Blk.new w [.int .i64 t1.states, .int .i64 t1.initial, l1, e1] 25
  rw [← hn0] at h
  rw [hW1]
  exact h
 have HS1 := Lib.hid (hs1.below hB1)
 have HE1 := Lib.hid (he1.below hB1)
 have K1 := Lib.hid hk1
 have X1 := Lib.hid hX1
 have HS2 := Lib.hid (hs2.below hB1)
 have K2 := Lib.hid hk2
 clear hs2 hk2
 have HG := Lib.hid (g.below hB1)
 have HB1 := Lib.hid hB1
 have HW1 := Lib.hid hW1
 have HN0 := Lib.hid hn0
 clear g hB1 hW1 hn0 hs1 he1 hk1 hX1
 have HC1 := Lib.hid (fun w' (hb : Below W1.heap.size W1 w') => szLts_any (.agg #[.int .i64 t1.states, .int .i64 t1.initial, l1, e1]) lo t1 1048576 w' (by decide) (by decide) K1.out ⟨l1, e1, rfl, HS1.out.below hb, HE1.out.below hb⟩)
 by_cases c1 : szL t1 1048576 < 0
 ·clear HG 
  go_enter Tryz.func6, Tryz.ntmps6
  go_wp2_with fail
  rw [← HW1.out]
  refine Calls.mono (HC1.out _ (Below.refl _ _)) ?_
  rintro e y1 ⟨rfl, hb1⟩
  have D1 := Lib.hid hb1
  clear hb1
  go_wp2_with fail
  go_ret
  exact ⟨rfl, HB1.out.trans (D1.out.mono HB1.out.size)⟩
 have hfit1 := szL_fit (t := t1) (left := 1048576) (by decide) (by omega)
 obtain ⟨M1, hM1⟩ : ∃ M1, M1 = szL t1 1048576 := ⟨_, rfl⟩
 rw [← hM1] at c1 hfit1 HC1
 have HMM1 := Lib.hid hM1
 clear hM1
 have hLz1 : 0 ≤ M1 := by omega
 have hLe1 : M1 ≤ 1048576 := by omega
 have HC2 := Lib.hid (fun w' (hb : Below W1.heap.size W1 w') => szStringS_any v2 lo ins M1 w' hLz1 hLe1 K2.out (HS2.out.below hb))
 by_cases c2 : szSS ins M1 < 0
 ·clear HG hLe1 hfit1
  go_enter Tryz.func6, Tryz.ntmps6
  go_wp2_with fail
  rw [← HW1.out]
  refine Calls.mono (HC1.out _ (Below.refl _ _)) ?_
  rintro e y1 ⟨rfl, hb1⟩
  have D1 := Lib.hid hb1
  clear hb1
  go_wp2_with fail
  refine Calls.mono (HC2.out _ D1.out) ?_
  rintro e y2 ⟨rfl, rfl⟩
  go_wp2_with fail
  go_ret
  exact ⟨rfl, HB1.out.trans (D1.out.mono HB1.out.size)⟩
 have hfit2 := szSS_fit (ss := ins) (left := M1) hLe1 (by omega)
 obtain ⟨M2, hM2⟩ : ∃ M2, M2 = szSS ins M1 := ⟨_, rfl⟩
 rw [← hM2] at c2 HC2
 clear hM2
 have J2 : Hid (Short20 ins) := fun i hi => by have := hfit2.2 _ (List.getElem_mem hi); omega
 have I2 : Hid (Short ins) := fun i hi => Nat.le_trans (J2.out i hi) (by decide)
 have hln2 : ins.length ≤ 1048576 := by omega
 have HLN2 := Lib.hid hln2
 have HT2 : Hid (∀ w', Below W1.heap.size W1 w' → Calls Tryz.prog 13 #[v2] w' (MadeStrs w' ins)) := fun w' hb => toStringS_any v2 lo ins w' HLN2.out (HS2.out.below hb)
 clear hfit2 hln2
 have hll1 : t1.labels.length ≤ 1048576 := by omega
 have hel1 : t1.edges.length ≤ 1048576 := by omega
 have J1 : Hid (Short20 t1.labels) := fun i hi => by have := hfit1.2.2.1 _ (List.getElem_mem hi); omega
 have I1 : Hid (Short t1.labels) := fun i hi => Nat.le_trans (J1.out i hi) (by decide)
 have HT1 : Hid (∀ w', Below W1.heap.size W1 w' → Calls Tryz.prog 12 #[.agg #[.int .i64 t1.states, .int .i64 t1.initial, l1, e1]] w' (CopyMade t1 w')) := fun w' hb => copy_any lo t1 _ _ w' hll1 hel1 (HS1.out.below hb) (HE1.out.below hb)
 have HLN1 : Hid (t1.labels.length ≤ 1048576 ∧ t1.edges.length ≤ 1048576) := ⟨hll1, hel1⟩
 have HSPEC : Hid (∀ (a1 b1 : Value) (c2 : Value) (w' : World), SliceK 1 encS 0 w' a1 t1.labels → SliceK 3 encE 0 w' b1 t1.edges → SliceK 1 encS 0 w' c2 ins → Calls Tryz.prog 31 #[.agg #[.int .i64 t1.states, .int .i64 t1.initial, a1, b1], c2] w' (RetCv t1 ins w')) := fun _ _ _ w' h1 k1 s2 => specCoveringTests_any 0 t1 _ _ _ ins w' I1.out h1 k1 s2
 have HIMPL : Hid (∀ (a1 b1 : Value) (c2 : Value) (w' : World), SliceK 1 encS 0 w' a1 t1.labels → SliceK 3 encE 0 w' b1 t1.edges → SliceK 1 encS 0 w' c2 ins → Glob w' → Calls Tryz.prog 32 #[.agg #[.int .i64 t1.states, .int .i64 t1.initial, a1, b1], c2] w' (RetCv t1 ins w')) := fun _ _ _ w' h1 k1 s2 hg => implCoveringTests_any 0 t1 _ _ _ ins w' J1.out J2.out h1 k1 s2 hg
 clear hfit1 hll1 hel1
 go_enter Tryz.func6, Tryz.ntmps6
 go_wp2_with fail
 rw [← HW1.out]
 refine Calls.mono (HC1.out _ (Below.refl _ _)) ?_
 rintro e w2 ⟨rfl, hb2⟩
 have D2 := Lib.hid hb2
 clear hb2 HC1
 rw [← HN0.out]
 go_wp2_with fail
 refine Calls.mono (HC2.out _ D2.out) ?_
 rintro e w3 ⟨rfl, rfl⟩
 clear HC2
 obtain ⟨x0, x1, x2, x3⟩ := blk4 (X1.out.below D2.out)
 go_wp2_with fail
 refine Calls.mono (HT1.out _ D2.out) ?_
 rintro e w4 ⟨b41, b42, rfl, hb4, hc4⟩
 have HCC4 := Lib.hid hc4
 have D4 := Lib.hid (D2.out.trans (hb4.mono D2.out.size))
 clear x0 x1 x2 x3 hb4 hc4
 go_wp2_with fail
 refine Calls.mono (HT2.out _ D4.out) ?_
 rintro e w5 ⟨rfl, hb5, -, ho5⟩
 have HCS5 := Lib.hid ho5
 have HCD5 := Lib.hid (HCC4.out.below hb5)
 have D5 := Lib.hid (D4.out.trans (hb5.mono D4.out.size))
 clear hb5 ho5 HCC4
 go_wp2_with fail
 refine Calls.mono (HSPEC.out _ _ _ _ HCD5.out.labels HCD5.out.edges (SliceK.of_owns (enc := encS) (e := 9) encS_len rfl (by rw [flat_encS]; exact own_lower HCS5.out (Nat.zero_le _)))) ?_
 rintro e w6 ⟨hb6, xss, code, vS, vsS, rfl, hisS, hoS0⟩
 have HIS := Lib.hid hisS
 have HOS0 := Lib.hid hoS0
 have D6 := Lib.hid (D5.out.trans (hb6.mono D5.out.size))
 clear hisS hoS0 HSPEC hb6
 have HWS1 : Hid (W1.heap.size ≤ w6.heap.size) := D6.out.size
 have HSS : Hid (w6.heap.size ≤ w6.heap.size) := ((Below.refl w6.heap.size w6)).size
 obtain ⟨x0, x1, x2, x3⟩ := blk4 (X1.out.below D6.out)
 go_wp2_with fail
 refine Calls.mono (HT1.out _ D6.out) ?_
 rintro e w7 ⟨p11, p12, rfl, hb7, hc7⟩
 have CP1 := Lib.hid hc7
 have HBS1 : Hid (w6.heap.size ≤ w6.heap.size) := ((Below.refl w6.heap.size w6)).size
 have D7 := Lib.hid (D6.out.trans (hb7.mono D6.out.size))
 have E7 := Lib.hid hb7
 clear x0 x1 x2 x3 hb7 hc7
 obtain ⟨w8, hw8⟩ : ∃ w8, w8 = w7.alloc (.cells #[.int .i64 t1.states, .int .i64 t1.initial, .slice (some ⟨p11, 0, none⟩) t1.labels.length t1.labels.length, .slice (some ⟨p12, 0, none⟩) t1.edges.length t1.edges.length] 30) := ⟨_, rfl⟩
 have hb8 : Below w7.heap.size w7 w8 := by rw [hw8]; exact boxNew _ _ _
 obtain ⟨kx1, hkx1⟩ : ∃ kx1, kx1 = w7.heap.size := ⟨_, rfl⟩
 have XC1 : Hid (Blk w8 kx1 [.int .i64 t1.states, .int .i64 t1.initial, .slice (some ⟨p11, 0, none⟩) t1.labels.length t1.labels.length, .slice (some ⟨p12, 0, none⟩) t1.edges.length t1.edges.length] 30) := by unfold Hid; rw [hw8, hkx1]; exact Blk.new _ _ _
 have CQ1 := Lib.hid (CP1.out.below hb8)
 have HKX1 := Lib.hid hkx1
 have HW8 := Lib.hid hw8
 have hb61 : p12 < kx1 := by rw [hkx1]; exact CP1.out.h3
 have HB61 := Lib.hid hb61
 have HZX1 : Hid (w8.heap.size = kx1 + 1) := by unfold Hid; rw [hw8, hkx1]; simp
 have HBX1 : Hid (w6.heap.size ≤ kx1) := by unfold Hid; rw [hkx1]; exact (show w6.heap.size ≤ w7.heap.size from (by have := CP1.out.h1; have := CP1.out.h2; have := CP1.out.h3; omega))
 have D8 := Lib.hid (D7.out.trans (hb8.mono D7.out.size))
 have E8 := Lib.hid (E7.out.trans (hb8.mono E7.out.size))
 clear hb8 hw8 hkx1 hb61
 go_wp2_with fail
 rw [← HW8.out, ← HKX1.out]
 refine Calls.mono (HT2.out _ D8.out) ?_
 rintro e w9 ⟨rfl, hb9, hgt9, ho9⟩
 obtain ⟨kv, hkv⟩ : ∃ kv, kv = w8.heap.size := ⟨_, rfl⟩
 rw [← hkv] at ho9 hgt9
 rw [← hkv]
 have SV := Lib.hid ho9
 have HKVB : Hid (kx1 + 1 ≤ kv) := by have := HZX1.out; unfold Hid; omega
 have HKVW : Hid (kv < w9.heap.size) := hgt9
 have D9 := Lib.hid (D8.out.trans (hb9.mono D8.out.size))
 have E9 := Lib.hid (E8.out.trans (hb9.mono E8.out.size))
 have P19 := Lib.hid hb9
 clear hb9 hgt9 ho9 hkv
 have HWI1 : Hid (kx1 + 1 ≤ w9.heap.size) := by have := (P19.out).size; have := HZX1.out; unfold Hid; omega
 have HWIS : Hid (w6.heap.size ≤ w9.heap.size) := (E9.out).size
 have HKVI : Hid (kv + 1 ≤ w9.heap.size) := by have := ((Below.refl w9.heap.size w9)).size; have := HKVW.out; unfold Hid; omega
 obtain ⟨x0, x1, x2, x3⟩ := blk4 (XC1.out.below P19.out)
 have hlt1 := (XC1.out.below P19.out).lt
 have HGO := Lib.hid (HIMPL.out _ _ _ _ (CQ1.out.below P19.out).labels (CQ1.out.below P19.out).edges (SliceK.of_owns (enc := encS) (e := 9) encS_len rfl (by rw [flat_encS]; exact own_lower (owns_below SV.out (Below.refl w9.heap.size w9)) (Nat.zero_le _))) (HG.out.below D9.out))
 go_wp2_with fail
 refine Calls.mono HGO.out ?_
 rintro e w10 ⟨hb10, xssg, codeg, vG, vsG, rfl, hisG, hoG0⟩
 obtain ⟨hq0, hq1⟩ := HIS.out.unique hisG
 subst hq0 hq1
 have HOG0 := Lib.hid hoG0
 have D10 := Lib.hid (D9.out.trans (hb10.mono D9.out.size))
 have E10 := Lib.hid (E9.out.trans (hb10.mono E9.out.size))
 have P110 := Lib.hid (P19.out.trans (hb10.mono P19.out.size))
 have S10 := Lib.hid hb10
 have I10 := Lib.hid hb10
 clear hisG hb10 HGO hoG0 x0 x1 x2 x3 hlt1
 go_wp2_with fail
 refine (eqStringSS_same _ _ _ _ xss _ ((HOG0.out.below (Below.refl w10.heap.size w10)).at) ((HOS0.out.below E10.out).at)).mono ?_
 rintro e w11 ⟨rfl, hb11⟩
 have D11 := Lib.hid (D10.out.trans (hb11.mono D10.out.size))
 have E11 := Lib.hid (E10.out.trans (hb11.mono E10.out.size))
 have P111 := Lib.hid (P110.out.trans (hb11.mono P110.out.size))
 have S11 := Lib.hid (S10.out.trans (hb11.mono S10.out.size))
 have I11 := Lib.hid (I10.out.trans (hb11.mono I10.out.size))
 have G11 := Lib.hid hb11
 clear hb11
 go_wp2_with fail
 have hDd : Below W1.heap.size W1 w11.drew := D11.out.drew
 have hPd := (P111.out).drew
 have G0 : Hid (w11.cell? ⟨kx1, 0, none⟩ = some (.int .i64 t1.states) ∧ w11.cell? ⟨kx1, 1, none⟩ = some (.int .i64 t1.initial) ∧ w11.cell? ⟨kx1, 2, none⟩ = some (.slice (some ⟨p11, 0, none⟩) t1.labels.length t1.labels.length) ∧ w11.cell? ⟨kx1, 3, none⟩ = some (.slice (some ⟨p12, 0, none⟩) t1.edges.length t1.edges.length) ∧ w11.cell? ⟨n0, 0, none⟩ = some (.int .i64 t1.states) ∧ w11.cell? ⟨n0, 1, none⟩ = some (.int .i64 t1.initial) ∧ w11.cell? ⟨n0, 2, none⟩ = some (l1) ∧ w11.cell? ⟨n0, 3, none⟩ = some (e1)) := ⟨(XC1.out.below P111.out).cell 0 rfl, (XC1.out.below P111.out).cell 1 rfl, (XC1.out.below P111.out).cell 2 rfl, (XC1.out.below P111.out).cell 3 rfl, (X1.out.below D11.out).cell 0 rfl, (X1.out.below D11.out).cell 1 rfl, (X1.out.below D11.out).cell 2 rfl, (X1.out.below D11.out).cell 3 rfl⟩
 have G1 : Hid (w11.drew.cell? ⟨kx1, 0, none⟩ = some (.int .i64 t1.states) ∧ w11.drew.cell? ⟨kx1, 1, none⟩ = some (.int .i64 t1.initial) ∧ w11.drew.cell? ⟨kx1, 2, none⟩ = some (.slice (some ⟨p11, 0, none⟩) t1.labels.length t1.labels.length) ∧ w11.drew.cell? ⟨kx1, 3, none⟩ = some (.slice (some ⟨p12, 0, none⟩) t1.edges.length t1.edges.length) ∧ w11.drew.cell? ⟨n0, 0, none⟩ = some (.int .i64 t1.states) ∧ w11.drew.cell? ⟨n0, 1, none⟩ = some (.int .i64 t1.initial) ∧ w11.drew.cell? ⟨n0, 2, none⟩ = some (l1) ∧ w11.drew.cell? ⟨n0, 3, none⟩ = some (e1)) := ⟨(XC1.out.below hPd).cell 0 rfl, (XC1.out.below hPd).cell 1 rfl, (XC1.out.below hPd).cell 2 rfl, (XC1.out.below hPd).cell 3 rfl, (X1.out.below hDd).cell 0 rfl, (X1.out.below hDd).cell 1 rfl, (X1.out.below hDd).cell 2 rfl, (X1.out.below hDd).cell 3 rfl⟩
 go_region_held3 (fun w' => w'.cell? ⟨kx1, 0, none⟩ = some (.int .i64 t1.states) ∧ w'.cell? ⟨kx1, 1, none⟩ = some (.int .i64 t1.initial) ∧ w'.cell? ⟨kx1, 2, none⟩ = some (.slice (some ⟨p11, 0, none⟩) t1.labels.length t1.labels.length) ∧ w'.cell? ⟨kx1, 3, none⟩ = some (.slice (some ⟨p12, 0, none⟩) t1.edges.length t1.edges.length) ∧ w'.cell? ⟨n0, 0, none⟩ = some (.int .i64 t1.states) ∧ w'.cell? ⟨n0, 1, none⟩ = some (.int .i64 t1.initial) ∧ w'.cell? ⟨n0, 2, none⟩ = some (l1) ∧ w'.cell? ⟨n0, 3, none⟩ = some (e1))
  (first | exact G0.out | exact G1.out | exact G2.out | exact G3.out | go_keep)
  (first
   | (go_at_call 12; refine Calls.mono (HT1.out _ hDd) ?_; rintro e w12 ⟨b121, b122, rfl, hb12, hc12⟩; have hD2 := hDd.trans (hb12.mono hDd.size); have hP2 := hPd.trans (hb12.mono hPd.size); have G2 : Hid (w12.cell? ⟨kx1, 0, none⟩ = some (.int .i64 t1.states) ∧ w12.cell? ⟨kx1, 1, none⟩ = some (.int .i64 t1.initial) ∧ w12.cell? ⟨kx1, 2, none⟩ = some (.slice (some ⟨p11, 0, none⟩) t1.labels.length t1.labels.length) ∧ w12.cell? ⟨kx1, 3, none⟩ = some (.slice (some ⟨p12, 0, none⟩) t1.edges.length t1.edges.length) ∧ w12.cell? ⟨n0, 0, none⟩ = some (.int .i64 t1.states) ∧ w12.cell? ⟨n0, 1, none⟩ = some (.int .i64 t1.initial) ∧ w12.cell? ⟨n0, 2, none⟩ = some (l1) ∧ w12.cell? ⟨n0, 3, none⟩ = some (e1)) := ⟨(XC1.out.below hP2).cell 0 rfl, (XC1.out.below hP2).cell 1 rfl, (XC1.out.below hP2).cell 2 rfl, (XC1.out.below hP2).cell 3 rfl, (X1.out.below hD2).cell 0 rfl, (X1.out.below hD2).cell 1 rfl, (X1.out.below hD2).cell 2 rfl, (X1.out.below hD2).cell 3 rfl⟩)
   | (go_at_call 15; refine (eqLts_same _ _ 0 0 t1 _ (CQ1.out.below hP2).at hc12.at).mono ?_; rintro e w13 ⟨rfl, hb13⟩; have hD3 := hD2.trans (hb13.mono hD2.size); have hP3 := hP2.trans (hb13.mono hP2.size); have G3 : Hid (w13.cell? ⟨kx1, 0, none⟩ = some (.int .i64 t1.states) ∧ w13.cell? ⟨kx1, 1, none⟩ = some (.int .i64 t1.initial) ∧ w13.cell? ⟨kx1, 2, none⟩ = some (.slice (some ⟨p11, 0, none⟩) t1.labels.length t1.labels.length) ∧ w13.cell? ⟨kx1, 3, none⟩ = some (.slice (some ⟨p12, 0, none⟩) t1.edges.length t1.edges.length) ∧ w13.cell? ⟨n0, 0, none⟩ = some (.int .i64 t1.states) ∧ w13.cell? ⟨n0, 1, none⟩ = some (.int .i64 t1.initial) ∧ w13.cell? ⟨n0, 2, none⟩ = some (l1) ∧ w13.cell? ⟨n0, 3, none⟩ = some (e1)) := ⟨(XC1.out.below hP3).cell 0 rfl, (XC1.out.below hP3).cell 1 rfl, (XC1.out.below hP3).cell 2 rfl, (XC1.out.below hP3).cell 3 rfl, (X1.out.below hD3).cell 0 rfl, (X1.out.below hD3).cell 1 rfl, (X1.out.below hD3).cell 2 rfl, (X1.out.below hD3).cell 3 rfl⟩))
 have hall13 : Below w11.heap.size w11 w13 := (((Below.refl w11.heap.size w11).drew).trans (hb12.mono (by simp))).trans (hb13.mono (Nat.le_trans (by simp) hb12.size))
 have D13 := Lib.hid (D11.out.trans (hall13.mono D11.out.size))
 have E13 := Lib.hid (E11.out.trans (hall13.mono E11.out.size))
 have P113 := Lib.hid (P111.out.trans (hall13.mono P111.out.size))
 have S13 := Lib.hid (S11.out.trans (hall13.mono S11.out.size))
 have I13 := Lib.hid (I11.out.trans (hall13.mono I11.out.size))
 have G13 := Lib.hid (G11.out.trans (hall13.mono G11.out.size))
 clear hDd hPd hD2 hP2 hD3 hP3 G0 G1 G2 G3 hall13 hb12 hc12 hb13
 go_wp2_with fail
 refine Calls.mono (HT2.out _ D13.out) ?_
 rintro e w14 ⟨rfl, hb14, -, ho14⟩
 have HCS14 := Lib.hid ho14
 have D14 := Lib.hid (D13.out.trans (hb14.mono D13.out.size))
 have E14 := Lib.hid (E13.out.trans (hb14.mono E13.out.size))
 have P114 := Lib.hid (P113.out.trans (hb14.mono P113.out.size))
 have S14 := Lib.hid (S13.out.trans (hb14.mono S13.out.size))
 have I14 := Lib.hid (I13.out.trans (hb14.mono I13.out.size))
 have G14 := Lib.hid (G13.out.trans (hb14.mono G13.out.size))
 clear hb14 ho14
 go_wp2_with fail
 refine (eqStringS_same _ _ 0 0 ins _ (SliceK.of_owns (enc := encS) (e := 9) encS_len rfl (by rw [flat_encS]; exact own_lower (owns_below SV.out S14.out) (Nat.zero_le _))) (SliceK.of_owns (enc := encS) (e := 9) encS_len rfl (by rw [flat_encS]; exact own_lower HCS14.out (Nat.zero_le _)))).mono ?_
 rintro e w15 ⟨rfl, hb15⟩
 have D15 := Lib.hid (D14.out.trans (hb15.mono D14.out.size))
 have E15 := Lib.hid (E14.out.trans (hb15.mono E14.out.size))
 have P115 := Lib.hid (P114.out.trans (hb15.mono P114.out.size))
 have S15 := Lib.hid (S14.out.trans (hb15.mono S14.out.size))
 have I15 := Lib.hid (I14.out.trans (hb15.mono I14.out.size))
 have G15 := Lib.hid (G14.out.trans (hb15.mono G14.out.size))
 clear hb15
 have HWIc : Hid (w9.heap.size ≤ w15.heap.size) := (I15.out).size
 have hcq := CQ1.out.below P115.out
 have hln := HLN1.out
 have hb6 := HB61.out
 have hbx := HBX1.out
 have hkl := (XC1.out.below P115.out).lt
 obtain ⟨N1, hN1⟩ : ∃ N : Int, N = 1 + (t1.labels.length : Int) + 3 * (t1.edges.length : Int) := ⟨_, rfl⟩
 have hNz1 : 0 ≤ N1 := by omega
 have hNb1 : N1 ≤ 5000000 := by omega
 have HM := Lib.hid (markLts_any w6.heap.size kx1 p11 p12 t1.labels.length t1.edges.length t1.states t1.initial _ _ 1 w15 (by decide) (by omega) hcq.h1 (by have := hcq.h2; omega) (by have := hcq.h1; have := hcq.h2; omega) hb6 (by omega) (by have := hcq.h2; omega) hcq.o1 (own_lower hcq.o2 (by have := hcq.h1; have := hcq.h2; omega)))
 rw [← hN1] at HM
 have HN1 := Lib.hid hN1
 have hlow := hcq.h1
 have HLW : Hid (w6.heap.size ≤ w15.heap.size) := by unfold Hid; omega
 obtain ⟨x0, x1, x2, x3⟩ := blk4 (XC1.out.below P115.out)
 clear hcq hln hb6 hbx hlow hN1
 go_wp2_with fail
 refine Calls.mono HM.out ?_
 rintro e w16 ⟨rfl, ht16⟩
 have hb16 : Below w6.heap.size w15 w16 := below_turns ht16 HLW.out
 have D16 := Lib.hid (D15.out.trans (hb16.mono (show W1.heap.size ≤ w6.heap.size from by have := HWS1.out; have := HBS1.out; omega)))
 have E16 := Lib.hid ((E15.out).trans (hb16.mono (show w6.heap.size ≤ w6.heap.size from by have := HBS1.out; have := HSS.out; omega)))
 have SV' := Lib.hid (owns_turns (owns_below SV.out S15.out) ht16 (fun b e => .inr (by have h : kv = b := (by simpa [Value.ownBlock] using e); have := HKVB.out; omega)))
 clear SV
 have SV := SV'
 clear SV'
 have HOGx0 := Lib.hid ((HOG0.out.below G15.out).turns ht16 (show kx1 ≤ w9.heap.size from by have := HZX1.out; have := HWI1.out; omega))
 clear HOG0
 have HOG0 := HOGx0
 clear HOGx0
 have HWM16 : Hid (w9.heap.size ≤ w16.heap.size) := by have := HWIc.out; have := ht16.size; unfold Hid; omega
 clear HWIc
 have HWIc := HWM16
 clear HWM16
 clear x0 x1 x2 x3 hkl HM HLW hb16 ht16
 obtain ⟨N2, hN2⟩ : ∃ N : Int, N = N1 + (ins.length : Int) := ⟨_, rfl⟩
 have hln2 := HLN2.out
 have hNz2 : 0 ≤ N2 := by omega
 have HM := Lib.hid (markStringS_is kv (.slice (some ⟨kv, 0, none⟩) ins.length ins.length) (ins.map Value.string) N1 w16 hNz1 (by rw [List.length_map]; omega) (by rw [List.length_map]; exact owns_below SV.out (Below.refl w16.heap.size w16)))
 rw [List.length_map, ← hN2] at HM
 have HLW : Hid (kv ≤ w16.heap.size) := by have := ((Below.refl w16.heap.size w16)).size; have := HKVI.out; have := HWIc.out; unfold Hid; omega
 clear hN2 hln2
 go_wp2_with fail
 refine Calls.mono HM.out ?_
 rintro e w17 ⟨rfl, hgr17, -⟩
 have ht17 : Turns kv (kv + 1) w16 w17 := turns_one hgr17
 have hb17 : Below kv w16 w17 := below_turns ht17 HLW.out
 have D17 := Lib.hid (D16.out.trans (hb17.mono (show W1.heap.size ≤ kv from by have := HWS1.out; have := HBS1.out; have := HBX1.out; have := HKVB.out; omega)))
 have E17 := Lib.hid ((E16.out).trans (hb17.mono (show w6.heap.size ≤ kv from by have := HSS.out; have := HBS1.out; have := HBX1.out; have := HKVB.out; omega)))
 have HOGx0 := Lib.hid ((HOG0.out.below (Below.refl w16.heap.size w16)).turns ht17 HKVI.out)
 clear HOG0
 have HOG0 := HOGx0
 clear HOGx0
 have HWM17 : Hid (w9.heap.size ≤ w17.heap.size) := by have := HWIc.out; have := ht17.size; unfold Hid; omega
 clear HWIc
 have HWIc := HWM17
 clear HWM17
 clear HM HLW hb17 ht17 hgr17
 go_wp2_with fail
 refine (eqStringSS_same _ _ _ _ xss _ ((HOG0.out.below (Below.refl w17.heap.size w17)).at) ((HOS0.out.below E17.out).at)).mono ?_
 rintro e w18 ⟨rfl, hb18⟩
 have D18 := Lib.hid (D17.out.trans (hb18.mono D17.out.size))
 have E18 := Lib.hid (E17.out.trans (hb18.mono E17.out.size))
 have G18 := Lib.hid hb18
 clear hb18
 have hwI : w9.heap.size ≤ w18.heap.size := by have := HWIc.out; have := (G18.out).size; omega
 have hfew := HIS.out.few
 obtain ⟨Z0, hZ0⟩ : ∃ Z : Int, Z = 1 + (totalS xss : Int) := ⟨_, rfl⟩
 have hZz0 : 0 ≤ Z0 ∧ Z0 ≤ 10000000 := by omega
 have HMK := Lib.hid (markStrss_is w9.heap.size _ _ xss 1 _ (by decide) (by omega) hwI (HOG0.out.below G18.out))
 rw [← hZ0] at HMK
 have HZZ0 := Lib.hid hZ0
 clear hZ0
 go_wp2_with fail
 refine Calls.mono HMK.out ?_
 rintro e w19 ⟨rfl, hb19, hom, hon⟩
 have HOM := Lib.hid hom
 have HON := Lib.hid hon
 have D19 := Lib.hid (D18.out.trans (hb19.mono (show W1.heap.size ≤ w9.heap.size from by have := HWS1.out; have := HWIS.out; omega)))
 have E19 := Lib.hid ((E18.out).trans (hb19.mono (show w6.heap.size ≤ w9.heap.size from by have := HWIS.out; have := HSS.out; omega)))
 clear HOG0
 have HOG0 := HOM
 clear HOM
 have hwI' : w9.heap.size ≤ w19.heap.size := Nat.le_trans hwI hb19.size
 clear hwI hb19 hom hon HON HMK
 have hwI := hwI'
 clear hwI'
 have HHE := Lib.hid (heldStrss_is w9.heap.size _ _ xss 1 _ (by decide) (by have := HZZ0.out; have := hZz0; omega) (HOG0.out.below (Below.refl w19.heap.size w19)))
 rw [← HZZ0.out] at HHE
 go_wp2_with fail
 refine Calls.mono HHE.out ?_
 rintro e w20 ⟨rfl, hb20⟩
 have D20 := Lib.hid (D19.out.trans (hb20.mono D19.out.size))
 have E20 := Lib.hid (E19.out.trans (hb20.mono E19.out.size))
 have G20 := Lib.hid hb20
 clear hb20 HHE
 obtain ⟨x0, x1, x2, x3⟩ := blk4 (X1.out.below D20.out)
 go_wp2_with fail
 refine Calls.mono (HT1.out _ D20.out) ?_
 rintro e w21 ⟨b211, b212, rfl, hb21, hc21⟩
 have HCC21 := Lib.hid hc21
 have D21 := Lib.hid (D20.out.trans (hb21.mono D20.out.size))
 have E21 := Lib.hid (E20.out.trans (hb21.mono E20.out.size))
 have G21 := Lib.hid (G20.out.trans (hb21.mono G20.out.size))
 clear x0 x1 x2 x3 hb21 hc21
 go_wp2_with fail
 refine Calls.mono (HT2.out _ D21.out) ?_
 rintro e w22 ⟨rfl, hb22, -, ho22⟩
 have HCS22 := Lib.hid ho22
 have HCD22 := Lib.hid (HCC21.out.below hb22)
 have D22 := Lib.hid (D21.out.trans (hb22.mono D21.out.size))
 have E22 := Lib.hid (E21.out.trans (hb22.mono E21.out.size))
 have G22 := Lib.hid (G21.out.trans (hb22.mono G21.out.size))
 clear hb22 ho22 HCC21
 go_wp2_with fail
 refine Calls.mono (HIMPL.out _ _ _ _ HCD22.out.labels HCD22.out.edges (SliceK.of_owns (enc := encS) (e := 9) encS_len rfl (by rw [flat_encS]; exact own_lower HCS22.out (Nat.zero_le _))) (HG.out.below D22.out)) ?_
 rintro e w23 ⟨hb23, xssh, codeh, vH, vsH, rfl, hisH, hoH0⟩
 obtain ⟨hq0, hq1⟩ := HIS.out.unique hisH
 subst hq0 hq1
 have HOH0 := Lib.hid hoH0
 have D23 := Lib.hid (D22.out.trans (hb23.mono D22.out.size))
 have E23 := Lib.hid (E22.out.trans (hb23.mono E22.out.size))
 have G23 := Lib.hid (G22.out.trans (hb23.mono G22.out.size))
 clear hisH hoH0 hb23
 go_wp2_with fail
 refine (eqStringSS_same _ _ _ _ xss _ ((HOH0.out.below (Below.refl w23.heap.size w23)).at) ((HOS0.out.below E23.out).at)).mono ?_
 rintro e w24 ⟨rfl, hb24⟩
 have D24 := Lib.hid (D23.out.trans (hb24.mono D23.out.size))
 have E24 := Lib.hid (E23.out.trans (hb24.mono E23.out.size))
 have G24 := Lib.hid (G23.out.trans (hb24.mono G23.out.size))
 have H24 := Lib.hid hb24
 clear hb24
 have HHE := Lib.hid (heldStrss_is w9.heap.size _ _ xss 1 _ (by decide) (by have := HZZ0.out; have := hZz0; omega) (HOG0.out.below G24.out))
 rw [← HZZ0.out] at HHE
 go_wp2_with fail
 refine Calls.mono HHE.out ?_
 rintro e w25 ⟨rfl, hb25⟩
 have D25 := Lib.hid (D24.out.trans (hb25.mono D24.out.size))
 have E25 := Lib.hid (E24.out.trans (hb25.mono E24.out.size))
 have G25 := Lib.hid (G24.out.trans (hb25.mono G24.out.size))
 have H25 := Lib.hid (H24.out.trans (hb25.mono H24.out.size))
 clear hb25 HHE
 go_wp2_with fail
 go_ret
 exact ⟨rfl, HB1.out.trans (D25.out.mono HB1.out.size)⟩

end Go.Proofs.YtkbgncenjfebdaaGreatDoor
