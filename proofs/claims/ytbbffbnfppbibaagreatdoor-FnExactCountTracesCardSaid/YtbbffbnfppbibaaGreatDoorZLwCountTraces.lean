/-
  For all arguments the law FnExactCountTraces answers true: the walk that joins both sides.
-/
import Derived.Test.YtbbffbnfppbibaaGreatDoorCx22
import Derived.Test.YtbbffbnfppbibaaGreatDoorCx23
import Derived.Test.YtbbffbnfppbibaaGreatDoorCx25
import Derived.Deep.RegionHeld3
namespace Go.Proofs.YtbbffbnfppbibaaGreatDoor
open Go Go.RowKit

set_option maxRecDepth 100000 in
set_option maxHeartbeats 4000000 in
theorem lawCountTraces (lo : Nat) (t1 : Lts) (l1 e1 : Value) (q1 : Int) (w : World) (hs1 : SliceK 1 encS lo w l1 t1.labels) (he1 : SliceK 3 encE lo w e1 t1.edges) (hk1 : StrsOk t1.labels) (g : Glob w) :
    Calls Tryz.prog 3 #[.agg #[.int .i64 t1.states, .int .i64 t1.initial, l1, e1], .int .i64 q1] w fun e w' => e = .returned (.bool true) ∧ Below w.heap.size w w' := by
  obtain ⟨n0, hn0⟩ : ∃ n0, n0 = w.heap.size := ⟨_, rfl⟩
  obtain ⟨W1, hW1⟩ : ∃ W1, W1 = (w.alloc (.cells #[.int .i64 t1.states, .int .i64 t1.initial, l1, e1] 25)) := ⟨_, rfl⟩
  have hB1 : Below w.heap.size w W1 := by rw [hW1]; exact ((Below.refl _ _).alloc (by simp) _)
  have hX1 : Blk W1 (n0) [.int .i64 t1.states, .int .i64 t1.initial, l1, e1] 25 := by
    have h := Blk.new w [.int .i64 t1.states, .int .i64 t1.initial, l1, e1] 25
    rw [← hn0] at h
    rw [hW1]
    exact h
  have HS1 := Lib.hid (hs1.below hB1)
  have HE1 := Lib.hid (he1.below hB1)
  have K1 := Lib.hid hk1
  have X1 := Lib.hid hX1
  have HG := Lib.hid (g.below hB1)
  have HB1 := Lib.hid hB1
  have HW1 := Lib.hid hW1
  have HN0 := Lib.hid hn0
  clear g hB1 hW1 hn0 hs1 he1 hk1 hX1
  have HC1 := Lib.hid (fun w' (hb : Below W1.heap.size W1 w') => szLts_any (.agg #[.int .i64 t1.states, .int .i64 t1.initial, l1, e1]) lo t1 1048576 w' (by decide) (by decide) K1.out ⟨l1, e1, rfl, HS1.out.below hb, HE1.out.below hb⟩)
  by_cases c1 : szL t1 1048576 < 0
  · clear HG 
    go_enter Tryz.func3, Tryz.ntmps3
    go_wp2_with fail
    rw [← HW1.out]
    refine Calls.mono (HC1.out _ (Below.refl _ _)) ?_
    rintro e y1 ⟨rfl, hb1⟩
    have D1 := Lib.hid hb1
    clear hb1
    go_wp2_with fail
    go_ret
    exact ⟨rfl, HB1.out.trans (D1.out.mono HB1.out.size)⟩
  have hfit1 := szL_fit (t := t1) (left := 1048576) (by decide) (by omega)
  obtain ⟨M1, hM1⟩ : ∃ M1, M1 = szL t1 1048576 := ⟨_, rfl⟩
  rw [← hM1] at c1 hfit1 HC1
  have hLz1 : 0 ≤ M1 := by omega
  have hLe1 : M1 ≤ 1048576 := by omega
  have hll1 : t1.labels.length ≤ 1048576 := by omega
  have hel1 : t1.edges.length ≤ 1048576 := by omega
  have J1 : Hid (Short20 t1.labels) := fun i hi => by have := hfit1.2.2.1 _ (List.getElem_mem hi); omega
  have I1 : Hid (Short t1.labels) := fun i hi => Nat.le_trans (J1.out i hi) (by decide)
  have HT1 : Hid (∀ w', Below W1.heap.size W1 w' → Calls Tryz.prog 11 #[.agg #[.int .i64 t1.states, .int .i64 t1.initial, l1, e1]] w' (CopyMade t1 w')) := fun w' hb => copy_any lo t1 _ _ w' hll1 hel1 (HS1.out.below hb) (HE1.out.below hb)
  have HLN1 : Hid (t1.labels.length ≤ 1048576 ∧ t1.edges.length ≤ 1048576) := ⟨hll1, hel1⟩
  have HSPEC : Hid (∀ (a1 b1 : Value) (w' : World), SliceK 1 encS 0 w' a1 t1.labels → SliceK 3 encE 0 w' b1 t1.edges → Calls Tryz.prog 10 #[.agg #[.int .i64 t1.states, .int .i64 t1.initial, a1, b1], .int .i64 q1] w' (RetCount t1 q1 w')) := fun _ _ w' h1 k1 => specCountTraces_any 0 t1 _ _ q1 w' I1.out ⟨h1, k1⟩
  have HIMPL : Hid (∀ (a1 b1 : Value) (w' : World), SliceK 1 encS 0 w' a1 t1.labels → SliceK 3 encE 0 w' b1 t1.edges → Glob w' → Calls Tryz.prog 12 #[.agg #[.int .i64 t1.states, .int .i64 t1.initial, a1, b1], .int .i64 q1] w' (RetCount t1 q1 w')) := fun _ _ w' h1 k1 hg => implCountTraces_any 0 t1 _ _ q1 w' J1.out h1 k1 hg
  clear hM1 hfit1 hll1 hel1
  go_enter Tryz.func3, Tryz.ntmps3
  go_wp2_with fail
  rw [← HW1.out]
  refine Calls.mono (HC1.out _ (Below.refl _ _)) ?_
  rintro e w2 ⟨rfl, hb2⟩
  have D2 := Lib.hid hb2
  clear hb2 HC1
  rw [← HN0.out]
  obtain ⟨x0, x1, x2, x3⟩ := blk4 (X1.out.below D2.out)
  go_wp2_with fail
  refine Calls.mono (HT1.out _ D2.out) ?_
  rintro e w3 ⟨b31, b32, rfl, hb3, hc3⟩
  have HCC3 := Lib.hid hc3
  have D3 := Lib.hid (D2.out.trans (hb3.mono D2.out.size))
  clear x0 x1 x2 x3 hb3 hc3
  go_wp2_with fail
  refine Calls.mono (HSPEC.out _ _ _ HCC3.out.labels HCC3.out.edges) ?_
  rintro e w4 ⟨hb4, c, code, rfl, hisS⟩
  have HIS := Lib.hid hisS
  have D4 := Lib.hid (D3.out.trans (hb4.mono D3.out.size))
  clear hisS  HSPEC hb4
  obtain ⟨x0, x1, x2, x3⟩ := blk4 (X1.out.below D4.out)
  go_wp2_with fail
  refine Calls.mono (HT1.out _ D4.out) ?_
  rintro e w5 ⟨p11, p12, rfl, hb5, hc5⟩
  have CP1 := Lib.hid hc5
  have D5 := Lib.hid (D4.out.trans (hb5.mono D4.out.size))
  have E5 := Lib.hid hb5
  clear x0 x1 x2 x3 hb5 hc5
  obtain ⟨w6, hw6⟩ : ∃ w6, w6 = w5.alloc (.cells #[.int .i64 t1.states, .int .i64 t1.initial, .slice (some ⟨p11, 0, none⟩) t1.labels.length t1.labels.length, .slice (some ⟨p12, 0, none⟩) t1.edges.length t1.edges.length] 31) := ⟨_, rfl⟩
  have hb6 : Below w5.heap.size w5 w6 := by rw [hw6]; exact boxNew _ _ _
  obtain ⟨kx1, hkx1⟩ : ∃ kx1, kx1 = w5.heap.size := ⟨_, rfl⟩
  have XC1 : Hid (Blk w6 kx1 [.int .i64 t1.states, .int .i64 t1.initial, .slice (some ⟨p11, 0, none⟩) t1.labels.length t1.labels.length, .slice (some ⟨p12, 0, none⟩) t1.edges.length t1.edges.length] 31) := by unfold Hid; rw [hw6, hkx1]; exact Blk.new _ _ _
  have CQ1 := Lib.hid (CP1.out.below hb6)
  have HKX1 := Lib.hid hkx1
  have HW6 := Lib.hid hw6
  have hb61 : p12 < kx1 := by rw [hkx1]; exact CP1.out.h3
  have HB61 := Lib.hid hb61
  have HZX1 : Hid (w6.heap.size = kx1 + 1) := by unfold Hid; rw [hw6, hkx1]; simp
  have HBX1 : Hid (w4.heap.size ≤ kx1) := by unfold Hid; rw [hkx1]; exact (show w4.heap.size ≤ w5.heap.size from (by have := CP1.out.h1; have := CP1.out.h2; have := CP1.out.h3; omega))
  have D6 := Lib.hid (D5.out.trans (hb6.mono D5.out.size))
  have E6 := Lib.hid (E5.out.trans (hb6.mono E5.out.size))
  clear hb6 hw6 hkx1 hb61
  obtain ⟨x0, x1, x2, x3⟩ := blk4 (XC1.out.below (Below.refl _ _))
  have hlt1 := (XC1.out.below (Below.refl _ _)).lt
  have HGO := Lib.hid (HIMPL.out _ _ _ (CQ1.out.below (Below.refl _ _)).labels (CQ1.out.below (Below.refl _ _)).edges (HG.out.below D6.out))
  go_wp2_with fail
  rw [← HW6.out, ← HKX1.out]
  refine Calls.mono HGO.out ?_
  rintro e w7 ⟨hb7, cg, codeg, rfl, hisG⟩
  obtain ⟨hq0, hq1⟩ := HIS.out.unique hisG
  subst hq0 hq1
  have D7 := Lib.hid (D6.out.trans (hb7.mono D6.out.size))
  have E7 := Lib.hid (E6.out.trans (hb7.mono E6.out.size))
  have P17 := Lib.hid hb7
  clear hisG hb7 HGO  x0 x1 x2 x3 hlt1
  go_wp2_with fail
  have hDd : Below W1.heap.size W1 w7.drew := D7.out.drew
  have hPd := (P17.out).drew
  have G0 : Hid (w7.cell? ⟨kx1, 0, none⟩ = some (.int .i64 t1.states) ∧ w7.cell? ⟨kx1, 1, none⟩ = some (.int .i64 t1.initial) ∧ w7.cell? ⟨kx1, 2, none⟩ = some (.slice (some ⟨p11, 0, none⟩) t1.labels.length t1.labels.length) ∧ w7.cell? ⟨kx1, 3, none⟩ = some (.slice (some ⟨p12, 0, none⟩) t1.edges.length t1.edges.length) ∧ w7.cell? ⟨n0, 0, none⟩ = some (.int .i64 t1.states) ∧ w7.cell? ⟨n0, 1, none⟩ = some (.int .i64 t1.initial) ∧ w7.cell? ⟨n0, 2, none⟩ = some (l1) ∧ w7.cell? ⟨n0, 3, none⟩ = some (e1)) := ⟨(XC1.out.below P17.out).cell 0 rfl, (XC1.out.below P17.out).cell 1 rfl, (XC1.out.below P17.out).cell 2 rfl, (XC1.out.below P17.out).cell 3 rfl, (X1.out.below D7.out).cell 0 rfl, (X1.out.below D7.out).cell 1 rfl, (X1.out.below D7.out).cell 2 rfl, (X1.out.below D7.out).cell 3 rfl⟩
  have G1 : Hid (w7.drew.cell? ⟨kx1, 0, none⟩ = some (.int .i64 t1.states) ∧ w7.drew.cell? ⟨kx1, 1, none⟩ = some (.int .i64 t1.initial) ∧ w7.drew.cell? ⟨kx1, 2, none⟩ = some (.slice (some ⟨p11, 0, none⟩) t1.labels.length t1.labels.length) ∧ w7.drew.cell? ⟨kx1, 3, none⟩ = some (.slice (some ⟨p12, 0, none⟩) t1.edges.length t1.edges.length) ∧ w7.drew.cell? ⟨n0, 0, none⟩ = some (.int .i64 t1.states) ∧ w7.drew.cell? ⟨n0, 1, none⟩ = some (.int .i64 t1.initial) ∧ w7.drew.cell? ⟨n0, 2, none⟩ = some (l1) ∧ w7.drew.cell? ⟨n0, 3, none⟩ = some (e1)) := ⟨(XC1.out.below hPd).cell 0 rfl, (XC1.out.below hPd).cell 1 rfl, (XC1.out.below hPd).cell 2 rfl, (XC1.out.below hPd).cell 3 rfl, (X1.out.below hDd).cell 0 rfl, (X1.out.below hDd).cell 1 rfl, (X1.out.below hDd).cell 2 rfl, (X1.out.below hDd).cell 3 rfl⟩
  go_region_held3 (fun w' => w'.cell? ⟨kx1, 0, none⟩ = some (.int .i64 t1.states) ∧ w'.cell? ⟨kx1, 1, none⟩ = some (.int .i64 t1.initial) ∧ w'.cell? ⟨kx1, 2, none⟩ = some (.slice (some ⟨p11, 0, none⟩) t1.labels.length t1.labels.length) ∧ w'.cell? ⟨kx1, 3, none⟩ = some (.slice (some ⟨p12, 0, none⟩) t1.edges.length t1.edges.length) ∧ w'.cell? ⟨n0, 0, none⟩ = some (.int .i64 t1.states) ∧ w'.cell? ⟨n0, 1, none⟩ = some (.int .i64 t1.initial) ∧ w'.cell? ⟨n0, 2, none⟩ = some (l1) ∧ w'.cell? ⟨n0, 3, none⟩ = some (e1))
    (first | exact G0.out | exact G1.out | exact G2.out | exact G3.out | go_keep)
    (first
      | (go_at_call 11; refine Calls.mono (HT1.out _ hDd) ?_; rintro e w8 ⟨b81, b82, rfl, hb8, hc8⟩; have hD2 := hDd.trans (hb8.mono hDd.size); have hP2 := hPd.trans (hb8.mono hPd.size); have G2 : Hid (w8.cell? ⟨kx1, 0, none⟩ = some (.int .i64 t1.states) ∧ w8.cell? ⟨kx1, 1, none⟩ = some (.int .i64 t1.initial) ∧ w8.cell? ⟨kx1, 2, none⟩ = some (.slice (some ⟨p11, 0, none⟩) t1.labels.length t1.labels.length) ∧ w8.cell? ⟨kx1, 3, none⟩ = some (.slice (some ⟨p12, 0, none⟩) t1.edges.length t1.edges.length) ∧ w8.cell? ⟨n0, 0, none⟩ = some (.int .i64 t1.states) ∧ w8.cell? ⟨n0, 1, none⟩ = some (.int .i64 t1.initial) ∧ w8.cell? ⟨n0, 2, none⟩ = some (l1) ∧ w8.cell? ⟨n0, 3, none⟩ = some (e1)) := ⟨(XC1.out.below hP2).cell 0 rfl, (XC1.out.below hP2).cell 1 rfl, (XC1.out.below hP2).cell 2 rfl, (XC1.out.below hP2).cell 3 rfl, (X1.out.below hD2).cell 0 rfl, (X1.out.below hD2).cell 1 rfl, (X1.out.below hD2).cell 2 rfl, (X1.out.below hD2).cell 3 rfl⟩)
      | (go_at_call 13; refine (eqLts_same _ _ 0 0 t1 _ (CQ1.out.below hP2).at hc8.at).mono ?_; rintro e w9 ⟨rfl, hb9⟩; have hD3 := hD2.trans (hb9.mono hD2.size); have hP3 := hP2.trans (hb9.mono hP2.size); have G3 : Hid (w9.cell? ⟨kx1, 0, none⟩ = some (.int .i64 t1.states) ∧ w9.cell? ⟨kx1, 1, none⟩ = some (.int .i64 t1.initial) ∧ w9.cell? ⟨kx1, 2, none⟩ = some (.slice (some ⟨p11, 0, none⟩) t1.labels.length t1.labels.length) ∧ w9.cell? ⟨kx1, 3, none⟩ = some (.slice (some ⟨p12, 0, none⟩) t1.edges.length t1.edges.length) ∧ w9.cell? ⟨n0, 0, none⟩ = some (.int .i64 t1.states) ∧ w9.cell? ⟨n0, 1, none⟩ = some (.int .i64 t1.initial) ∧ w9.cell? ⟨n0, 2, none⟩ = some (l1) ∧ w9.cell? ⟨n0, 3, none⟩ = some (e1)) := ⟨(XC1.out.below hP3).cell 0 rfl, (XC1.out.below hP3).cell 1 rfl, (XC1.out.below hP3).cell 2 rfl, (XC1.out.below hP3).cell 3 rfl, (X1.out.below hD3).cell 0 rfl, (X1.out.below hD3).cell 1 rfl, (X1.out.below hD3).cell 2 rfl, (X1.out.below hD3).cell 3 rfl⟩))
  have hall9 : Below w7.heap.size w7 w9 := (((Below.refl w7.heap.size w7).drew).trans (hb8.mono (by simp))).trans (hb9.mono (Nat.le_trans (by simp) hb8.size))
  have D9 := Lib.hid (D7.out.trans (hall9.mono D7.out.size))
  have E9 := Lib.hid (E7.out.trans (hall9.mono E7.out.size))
  have P19 := Lib.hid (P17.out.trans (hall9.mono P17.out.size))
  have G9 := Lib.hid hall9
  clear hDd hPd hD2 hP2 hD3 hP3 G0 G1 G2 G3 hall9 hb8 hc8 hb9
  go_wp2_with fail
  go_ret
  exact ⟨rfl, HB1.out.trans (D9.out.mono HB1.out.size)⟩

end Go.Proofs.YtbbffbnfppbibaaGreatDoor
