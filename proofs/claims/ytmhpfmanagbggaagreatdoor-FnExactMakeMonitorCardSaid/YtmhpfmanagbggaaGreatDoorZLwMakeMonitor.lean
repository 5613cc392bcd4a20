/-
  For all arguments the law FnExactMakeMonitor answers true: the walk that joins both sides.
-/
import Derived.Test.YtmhpfmanagbggaaGreatDoorK19
import Derived.Test.YtmhpfmanagbggaaGreatDoorK23
import Derived.Test.YtmhpfmanagbggaaGreatDoorK24
import Derived.Deep.RegionHeld3
namespace Go.Proofs.YtmhpfmanagbggaaGreatDoor
open Go Go.RowKit

set_option maxRecDepth 100000 in
set_option maxHeartbeats 4000000 in
theorem lawMakeMonitor (lo : Nat) (t1 : Lts) (l1 e1 : Value) (t2 : Lts) (l2 e2 : Value) (w : World) (hs1 : SliceK 1 encS lo w l1 t1.labels) (he1 : SliceK 3 encE lo w e1 t1.edges) (hk1 : StrsOk t1.labels) (hs2 : SliceK 1 encS lo w l2 t2.labels) (he2 : SliceK 3 encE lo w e2 t2.edges) (hk2 : StrsOk t2.labels) (g : Glob w) :
  Calls Tryz.prog 3 #[.agg #[.int .i64 t1.states, .int .i64 t1.initial, l1, e1], .agg #[.int .i64 t2.states, .int .i64 t2.initial, l2, e2]] w fun e w' => e = .returned (.bool true) ∧ Below w.heap.size w w' := by
 obtain ⟨n0, hn0⟩ : ∃ n0, n0 = w.heap.size := ⟨_, rfl⟩
 obtain ⟨W1, hW1⟩ : ∃ W1, W1 = ((w.alloc (.cells #[.int .i64 t1.states, .int .i64 t1.initial, l1, e1] 25)).alloc (.cells #[.int .i64 t2.states, .int .i64 t2.initial, l2, e2] 25)) := ⟨_, rfl⟩
 have hB1 : Below w.heap.size w W1 := by rw [hW1]; exact (((Below.refl _ _).alloc (by simp) _).alloc (by simp) _)
 have hX1 : Blk W1 (n0) [.int .i64 t1.states, .int .i64 t1.initial, l1, e1] 25 := by
  have h := Blk.new w [.int .i64 t1.states, .int .i64 t1.initial, l1, e1] 25
  rw [← hn0] at h
  rw [hW1]
  exact h.alloc _
 have hX2 : Blk W1 (n0 + 1) [.int .i64 t2.states, .int .i64 t2.initial, l2, e2] 25 := by
  have h := Blk.new (w.alloc (.cells #[.int .i64 t1.states, .int .i64 t1.initial, l1, e1] 25)) [.int .i64 t2.states, .int .i64 t2.initial, l2, e2] 25
  rw [World.size_alloc, ← hn0] at h
  rw [hW1]
  exact h
 have HS1 := Lib.hid (hs1.below hB1)
 have HE1 := Lib.hid (he1.below hB1)
 have K1 := Lib.hid hk1
 have X1 := Lib.hid hX1
 have HS2 := Lib.hid (hs2.below hB1)
 have HE2 := Lib.hid (he2.below hB1)
 have K2 := Lib.hid hk2
 have X2 := Lib.hid hX2
 have HG := Lib.hid (g.below hB1)
 have HB1 := Lib.hid hB1
 have HW1 := Lib.hid hW1
 have HN0 := Lib.hid hn0
 clear g hB1 hW1 hn0 hs1 he1 hk1 hX1 hs2 he2 hk2 hX2
 have HC1 := Lib.hid (fun w' (hb : Below W1.heap.size W1 w') => szLts_any (.agg #[.int .i64 t1.states, .int .i64 t1.initial, l1, e1]) lo t1 1048576 w' (by decide) (by decide) K1.out ⟨l1, e1, rfl, HS1.out.below hb, HE1.out.below hb⟩)
 by_cases c1 : szL t1 1048576 < 0
 ·clear HG 
  go_enter Tryz.func3, Tryz.ntmps3
  go_wp2_with fail
  rw [← HW1.out]
  refine Calls.mono (HC1.out _ (Below.refl _ _)) ?_
  rintro e y1 ⟨rfl, hb1⟩
  have D1 := Lib.hid hb1
  clear hb1
  go_wp2_with fail
  go_ret
  exact ⟨rfl, HB1.out.trans (D1.out.mono HB1.out.size)⟩
 have hfit1 := szL_fit (t := t1) (left := 1048576) (by decide) (by omega)
 obtain ⟨M1, hM1⟩ : ∃ M1, M1 = szL t1 1048576 := ⟨_, rfl⟩
 rw [← hM1] at c1 hfit1 HC1
 have HMM1 := Lib.hid hM1
 clear hM1
 have hLz1 : 0 ≤ M1 := by omega
 have hLe1 : M1 ≤ 1048576 := by omega
 have HC2 := Lib.hid (fun w' (hb : Below W1.heap.size W1 w') => szLts_any (.agg #[.int .i64 t2.states, .int .i64 t2.initial, l2, e2]) lo t2 M1 w' hLz1 hLe1 K2.out ⟨l2, e2, rfl, HS2.out.below hb, HE2.out.below hb⟩)
 by_cases c2 : szL t2 M1 < 0
 ·clear HG hLe1 hfit1
  go_enter Tryz.func3, Tryz.ntmps3
  go_wp2_with fail
  rw [← HW1.out]
  refine Calls.mono (HC1.out _ (Below.refl _ _)) ?_
  rintro e y1 ⟨rfl, hb1⟩
  have D1 := Lib.hid hb1
  obtain ⟨x0, x1, x2, x3⟩ := blk4 (X2.out.below D1.out)
  rw [← HN0.out]
  clear hb1
  go_wp2_with fail
  refine Calls.mono (HC2.out _ D1.out) ?_
  rintro e y2 ⟨rfl, hb2⟩
  have D2 := Lib.hid (D1.out.trans (hb2.mono D1.out.size))
  clear x0 x1 x2 x3
  clear hb2
  go_wp2_with fail
  go_ret
  exact ⟨rfl, HB1.out.trans (D2.out.mono HB1.out.size)⟩
 have hfit2 := szL_fit (t := t2) (left := M1) hLz1 (by omega)
 obtain ⟨M2, hM2⟩ : ∃ M2, M2 = szL t2 M1 := ⟨_, rfl⟩
 rw [← hM2] at c2 hfit2 HC2
 have HMM2 := Lib.hid hM2
 clear hM2
 have hLz2 : 0 ≤ M2 := by omega
 have hLe2 : M2 ≤ 1048576 := by omega
 have hll1 : t1.labels.length ≤ 1048576 := by omega
 have hel1 : t1.edges.length ≤ 1048576 := by omega
 have J1 : Hid (Short20 t1.labels) := fun i hi => by have := hfit1.2.2.1 _ (List.getElem_mem hi); omega
 have I1 : Hid (Short t1.labels) := fun i hi => Nat.le_trans (J1.out i hi) (by decide)
 have HT1 : Hid (∀ w', Below W1.heap.size W1 w' → Calls Tryz.prog 6 #[.agg #[.int .i64 t1.states, .int .i64 t1.initial, l1, e1]] w' (CopyMade t1 w')) := fun w' hb => copy_any lo t1 _ _ w' hll1 hel1 (HS1.out.below hb) (HE1.out.below hb)
 have HLN1 : Hid (t1.labels.length ≤ 1048576 ∧ t1.edges.length ≤ 1048576) := ⟨hll1, hel1⟩
 have hll2 : t2.labels.length ≤ 1048576 := by omega
 have hel2 : t2.edges.length ≤ 1048576 := by omega
 have J2 : Hid (Short20 t2.labels) := fun i hi => by have := hfit2.2.2.1 _ (List.getElem_mem hi); omega
 have I2 : Hid (Short t2.labels) := fun i hi => Nat.le_trans (J2.out i hi) (by decide)
 have HT2 : Hid (∀ w', Below W1.heap.size W1 w' → Calls Tryz.prog 6 #[.agg #[.int .i64 t2.states, .int .i64 t2.initial, l2, e2]] w' (CopyMade t2 w')) := fun w' hb => copy_any lo t2 _ _ w' hll2 hel2 (HS2.out.below hb) (HE2.out.below hb)
 have HLN2 : Hid (t2.labels.length ≤ 1048576 ∧ t2.edges.length ≤ 1048576) := ⟨hll2, hel2⟩
 have HSPEC : Hid (∀ (a1 b1 : Value) (a2 b2 : Value) (w' : World), SliceK 1 encS 0 w' a1 t1.labels → SliceK 3 encE 0 w' b1 t1.edges → SliceK 1 encS 0 w' a2 t2.labels → SliceK 3 encE 0 w' b2 t2.edges → Calls Tryz.prog 5 #[.agg #[.int .i64 t1.states, .int .i64 t1.initial, a1, b1], .agg #[.int .i64 t2.states, .int .i64 t2.initial, a2, b2]] w' (RetMkM t1 t2 w')) := fun _ _ _ _ w' h1 k1 h2 k2 => specMakeMonitor_any 0 t1 _ _ t2 _ _ w' I1.out I2.out h1 k1 h2 k2
 have HIMPL : Hid (∀ (a1 b1 : Value) (a2 b2 : Value) (w' : World), SliceK 1 encS 0 w' a1 t1.labels → SliceK 3 encE 0 w' b1 t1.edges → SliceK 1 encS 0 w' a2 t2.labels → SliceK 3 encE 0 w' b2 t2.edges → Glob w' → Calls Tryz.prog 7 #[.agg #[.int .i64 t1.states, .int .i64 t1.initial, a1, b1], .agg #[.int .i64 t2.states, .int .i64 t2.initial, a2, b2]] w' (RetMkM t1 t2 w')) := fun _ _ _ _ w' h1 k1 h2 k2 hg => implMakeMonitor_any 0 t1 _ _ t2 _ _ w' J1.out J2.out h1 k1 h2 k2 hg
 clear hfit1 hll1 hel1 hfit2 hll2 hel2
 go_enter Tryz.func3, Tryz.ntmps3
 go_wp2_with fail
 rw [← HW1.out]
 refine Calls.mono (HC1.out _ (Below.refl _ _)) ?_
 rintro e w2 ⟨rfl, hb2⟩
 have D2 := Lib.hid hb2
 clear hb2 HC1
 obtain ⟨x0, x1, x2, x3⟩ := blk4 (X2.out.below D2.out)
 rw [← HN0.out]
 go_wp2_with fail
 refine Calls.mono (HC2.out _ D2.out) ?_
 rintro e w3 ⟨rfl, hb3⟩
 have D3 := Lib.hid (D2.out.trans (hb3.mono D2.out.size))
 clear hb3 HC2 x0 x1 x2 x3
 go_wp2_with fail
 have HGW : Hid (∀ W, Below W1.heap.size W1 W → W.cell? ⟨n0, 0, none⟩ = some (.int .i64 t1.states) ∧ W.cell? ⟨n0, 1, none⟩ = some (.int .i64 t1.initial) ∧ W.cell? ⟨n0, 2, none⟩ = some (l1) ∧ W.cell? ⟨n0, 3, none⟩ = some (e1) ∧ W.cell? ⟨n0 + 1, 0, none⟩ = some (.int .i64 t2.states) ∧ W.cell? ⟨n0 + 1, 1, none⟩ = some (.int .i64 t2.initial) ∧ W.cell? ⟨n0 + 1, 2, none⟩ = some (l2) ∧ W.cell? ⟨n0 + 1, 3, none⟩ = some (e2)) := fun W hW => ⟨(X1.out.below hW).cell 0 rfl, (X1.out.below hW).cell 1 rfl, (X1.out.below hW).cell 2 rfl, (X1.out.below hW).cell 3 rfl, (X2.out.below hW).cell 0 rfl, (X2.out.below hW).cell 1 rfl, (X2.out.below hW).cell 2 rfl, (X2.out.below hW).cell 3 rfl⟩
 have hDd : Below W1.heap.size W1 w3.drew := D3.out.drew
 have HDZ : Hid (∀ o, Below W1.heap.size W1 (w3.alloc o).drew) := fun o => (D3.out.alloc D3.out.size o).drew
 have HSd : Hid (Below w3.heap.size w3 w3.drew) := (Below.refl _ _).drew
 have HSZ : Hid (∀ o, Below w3.heap.size w3 (w3.alloc o).drew) := fun o => ((Below.refl _ _).alloc (Nat.le_refl _) o).drew
 have HZ3 : Hid (Blk (w3.alloc (.cells #[.int .i64 0, .int .i64 0, .slice none 0 0, .slice none 0 0, .slice none 0 0] 32)).drew w3.heap.size [.int .i64 0, .int .i64 0, .slice none 0 0, .slice none 0 0, .slice none 0 0] 32) := (blk_at w3 [.int .i64 0, .int .i64 0, .slice none 0 0, .slice none 0 0, .slice none 0 0] 32 rfl).below (Below.refl _ _).drew
 have hDs : W1.heap.size ≤ w3.heap.size := D3.out.size
 have G0 := Lib.hid (HGW.out _ D3.out)
 have G1 := Lib.hid (HGW.out _ hDd)
 go_cut [6, 7] from 17 (fun vb vc wx => ∃ (k : Nat) (d : Mon) (code : Int) (alvS aevS awvS : Option Addr) (clvS cevS cwvS : Nat), vb = .pointer (some ⟨k, 0, none⟩) ∧ vc = .int .i64 code ∧ Below w3.heap.size w3 wx ∧ Blk wx k [.int .i64 d.sys.states, .int .i64 d.sys.initial, .slice alvS d.sys.labels.length clvS, .slice aevS d.sys.edges.length cevS, .slice awvS d.vs.length cwvS] 32 ∧ MkMIs t1 t2 d code ∧ OwnMon w3.heap.size wx (.slice alvS d.sys.labels.length clvS) (.slice aevS d.sys.edges.length cevS) (.slice awvS d.vs.length cwvS) d)
 case first =>
  go_region_held3 (fun w' => w'.cell? ⟨n0, 0, none⟩ = some (.int .i64 t1.states) ∧ w'.cell? ⟨n0, 1, none⟩ = some (.int .i64 t1.initial) ∧ w'.cell? ⟨n0, 2, none⟩ = some (l1) ∧ w'.cell? ⟨n0, 3, none⟩ = some (e1) ∧ w'.cell? ⟨n0 + 1, 0, none⟩ = some (.int .i64 t2.states) ∧ w'.cell? ⟨n0 + 1, 1, none⟩ = some (.int .i64 t2.initial) ∧ w'.cell? ⟨n0 + 1, 2, none⟩ = some (l2) ∧ w'.cell? ⟨n0 + 1, 3, none⟩ = some (e2))
   (first | (with_reducible exact G0.out) | (with_reducible exact G1.out) | (with_reducible exact HGW.out _ (HDZ.out _)) | (with_reducible exact HGW.out _ hD4) | (with_reducible exact HGW.out _ (hD4.alloc hD4.size _)) | (with_reducible exact HGW.out _ hD5) | (with_reducible exact HGW.out _ (hD5.alloc hD5.size _)) | (with_reducible exact HGW.out _ hD6) | (with_reducible exact HGW.out _ (hD6.alloc hD6.size _)) | (with_reducible exact HGW.out _ (((((hD6.setCell hk _).setCell hk _).setCell hk _).setCell hk _).setCell hk _)) | go_keep)
   (first
    | (go_at_call_of 6 (Value.agg #[Value.int .i64 t1.states, Value.int .i64 t1.initial, l1, e1]); refine Calls.mono (HT1.out _ (by first | with_reducible exact hDd | with_reducible exact HDZ.out _)) ?_; rintro e w4 ⟨b41, b42, rfl, hb4, hc4⟩; have hD4 : Below W1.heap.size W1 w4 := (by first | with_reducible exact hDd.trans (hb4.mono hDd.size) | with_reducible exact (HDZ.out _).trans (hb4.mono (HDZ.out _).size)); have hS4 : Below w3.heap.size w3 w4 := (by first | with_reducible exact HSd.out.trans (hb4.mono HSd.out.size) | with_reducible exact (HSZ.out _).trans (hb4.mono (HSZ.out _).size)); (try (have QA1 : Hid (Blk w4 w3.heap.size [.int .i64 0, .int .i64 0, .slice none 0 0, .slice none 0 0, .slice none 0 0] 32) := Lib.hid (by with_reducible exact HZ3.out.below hb4))))
    | (go_at_call_of 6 (Value.agg #[Value.int .i64 t2.states, Value.int .i64 t2.initial, l2, e2]); refine Calls.mono (HT2.out _ (by first | with_reducible exact hD4 | with_reducible exact hD4.alloc hD4.size _)) ?_; rintro e w5 ⟨b51, b52, rfl, hb5, hc5⟩; have h12 : Below w4.heap.size w4 w5 := (by first | with_reducible exact hb5 | with_reducible exact (boxNew _ _ _).trans (hb5.mono (boxNew _ _ _).size)); have hD5 := hD4.trans (h12.mono hD4.size); have hS5 := hS4.trans (h12.mono hS4.size); (try (have QA2 : Hid (Blk w5 w3.heap.size [.int .i64 0, .int .i64 0, .slice none 0 0, .slice none 0 0, .slice none 0 0] 32) := Lib.hid (by with_reducible exact QA1.out.below h12))); (try (have QB2 : Hid (Blk w5 w4.heap.size [.int .i64 0, .int .i64 0, .slice none 0 0, .slice none 0 0, .slice none 0 0] 32) := Lib.hid (by with_reducible exact (blk_at w4 [.int .i64 0, .int .i64 0, .slice none 0 0, .slice none 0 0, .slice none 0 0] 32 rfl).below hb5))); have HCALL := Lib.hid (fun (W : World) (hW : Below w5.heap.size w5 W) => HSPEC.out _ _ _ _ W ((hc4.below h12).below hW).labels ((hc4.below h12).below hW).edges (hc5.below hW).labels (hc5.below hW).edges))
    | (go_at_call 5; refine Calls.mono (HCALL.out _ (by first | with_reducible exact Below.refl _ _ | with_reducible exact boxNew _ _ _)) ?_; rintro e w6 ⟨hb6, d, code, lvx, evx, wvx, rfl, hisx, hox⟩; obtain ⟨alvS, clvS, rfl, -, -⟩ := owns_slice hox.1.1; obtain ⟨aevS, cevS, rfl, -, -⟩ := owns_slice hox.1.2; obtain ⟨awvS, cwvS, rfl, -, -⟩ := owns_slice hox.2; have h23 : Below w5.heap.size w5 w6 := (by first | with_reducible exact hb6 | with_reducible exact (boxNew _ _ _).trans (hb6.mono (boxNew _ _ _).size)); have hD6 := hD5.trans (h23.mono hD5.size); have hS6 := hS5.trans (h23.mono hS5.size); have hol : OwnMon w3.heap.size w6 (.slice alvS d.sys.labels.length clvS) (.slice aevS d.sys.edges.length cevS) (.slice awvS d.vs.length cwvS) d := (by first | with_reducible exact hox.lower hS5.size | with_reducible exact hox.lower (Nat.le_trans hS5.size (boxNew _ _ _).size)); (try (have QA3 : Hid (Blk w6 w3.heap.size [.int .i64 0, .int .i64 0, .slice none 0 0, .slice none 0 0, .slice none 0 0] 32) := Lib.hid (by with_reducible exact QA2.out.below h23))); (try (have QB3 : Hid (Blk w6 w4.heap.size [.int .i64 0, .int .i64 0, .slice none 0 0, .slice none 0 0, .slice none 0 0] 32) := Lib.hid (by with_reducible exact QB2.out.below h23))); (try (have QC3 : Hid (Blk w6 w5.heap.size [.int .i64 0, .int .i64 0, .slice none 0 0, .slice none 0 0, .slice none 0 0] 32) := Lib.hid (by with_reducible exact (blk_at w5 [.int .i64 0, .int .i64 0, .slice none 0 0, .slice none 0 0, .slice none 0 0] 32 rfl).below hb6))); (try (have zc0 := QA3.out.cell 0 rfl; have zc1 := QA3.out.cell 1 rfl; have zc2 := QA3.out.cell 2 rfl; have zc3 := QA3.out.cell 3 rfl; have zc4 := QA3.out.cell 4 rfl; have zf0 := QA3.out.frozen 0; have zf1 := QA3.out.frozen 1; have zf2 := QA3.out.frozen 2; have zf3 := QA3.out.frozen 3; have zf4 := QA3.out.frozen 4; have hk : W1.heap.size ≤ w3.heap.size := (by exact hDs))); (try (have zc0 := QB3.out.cell 0 rfl; have zc1 := QB3.out.cell 1 rfl; have zc2 := QB3.out.cell 2 rfl; have zc3 := QB3.out.cell 3 rfl; have zc4 := QB3.out.cell 4 rfl; have zf0 := QB3.out.frozen 0; have zf1 := QB3.out.frozen 1; have zf2 := QB3.out.frozen 2; have zf3 := QB3.out.frozen 3; have zf4 := QB3.out.frozen 4; have hk : W1.heap.size ≤ w4.heap.size := (by exact hD4.size))); (try (have zc0 := QC3.out.cell 0 rfl; have zc1 := QC3.out.cell 1 rfl; have zc2 := QC3.out.cell 2 rfl; have zc3 := QC3.out.cell 3 rfl; have zc4 := QC3.out.cell 4 rfl; have zf0 := QC3.out.frozen 0; have zf1 := QC3.out.frozen 1; have zf2 := QC3.out.frozen 2; have zf3 := QC3.out.frozen 3; have zf4 := QC3.out.frozen 4; have hk : W1.heap.size ≤ w5.heap.size := (by exact hD5.size))); skip)
    | fail)
  all_goals (
   first
    | (have h1 := five_sets (v0 := .int .i64 d.sys.states) (v1 := .int .i64 d.sys.initial) (v2 := .slice alvS d.sys.labels.length clvS) (v3 := .slice aevS d.sys.edges.length cevS) (v4 := .slice awvS d.vs.length cwvS) QA3.out hS6 (Nat.le_refl _); go_wp2_with fail; go_meet; case rel => exact ⟨_, d, code, _, _, _, _, _, _, rfl, rfl, h1.1, h1.2.1, hisx, ⟨h1.2.2 hol.1.1 (by decide), h1.2.2 hol.1.2 (by decide)⟩, h1.2.2 hol.2 (by decide)⟩)
    | (have h1 := five_sets (v0 := .int .i64 d.sys.states) (v1 := .int .i64 d.sys.initial) (v2 := .slice alvS d.sys.labels.length clvS) (v3 := .slice aevS d.sys.edges.length cevS) (v4 := .slice awvS d.vs.length cwvS) QB3.out hS6 hS4.size; go_wp2_with fail; go_meet; case rel => exact ⟨_, d, code, _, _, _, _, _, _, rfl, rfl, h1.1, h1.2.1, hisx, ⟨h1.2.2 hol.1.1 (by decide), h1.2.2 hol.1.2 (by decide)⟩, h1.2.2 hol.2 (by decide)⟩)
    | (have h1 := five_sets (v0 := .int .i64 d.sys.states) (v1 := .int .i64 d.sys.initial) (v2 := .slice alvS d.sys.labels.length clvS) (v3 := .slice aevS d.sys.edges.length cevS) (v4 := .slice awvS d.vs.length cwvS) QC3.out hS6 hS5.size; go_wp2_with fail; go_meet; case rel => exact ⟨_, d, code, _, _, _, _, _, _, rfl, rfl, h1.1, h1.2.1, hisx, ⟨h1.2.2 hol.1.1 (by decide), h1.2.2 hol.1.2 (by decide)⟩, h1.2.2 hol.2 (by decide)⟩)
    | (go_wp2_with fail; go_meet; case rel => exact ⟨_, d, code, _, _, _, _, _, _, rfl, rfl, hS6.alloc hS6.size _, Blk.new w6 [.int .i64 d.sys.states, .int .i64 d.sys.initial, .slice alvS d.sys.labels.length clvS, .slice aevS d.sys.edges.length cevS, .slice awvS d.vs.length cwvS] 32, hisx, hol.below (boxNew _ _ _)⟩))
 obtain ⟨kS, d, code, alvS, aevS, awvS, clvS, cevS, cwvS, rfl, rfl, hall6, hXS, hisS, hoS0⟩ := hcut
 obtain ⟨w7, rfl⟩ : ∃ w7 : World, w7 = wc := ⟨_, rfl⟩
 have HIS := Lib.hid hisS
 have HOS0 := Lib.hid hoS0
 have D7 := Lib.hid (D3.out.trans (hall6.mono D3.out.size))
 have XS := Lib.hid hXS
 clear hisS hoS0 HSPEC hXS hall6 G0 G1 HGW hDd HDZ HSd HSZ HZ3 hDs
 have HWS1 : Hid (W1.heap.size ≤ w7.heap.size) := D7.out.size
 have HSS : Hid (w7.heap.size ≤ w7.heap.size) := ((Below.refl w7.heap.size w7)).size
 obtain ⟨x0, x1, x2, x3⟩ := blk4 (X1.out.below D7.out)
 go_wp2_with fail
 refine Calls.mono (HT1.out _ D7.out) ?_
 rintro e w8 ⟨p11, p12, rfl, hb8, hc8⟩
 have CP1 := Lib.hid hc8
 have HBS1 : Hid (w7.heap.size ≤ w7.heap.size) := ((Below.refl w7.heap.size w7)).size
 have D8 := Lib.hid (D7.out.trans (hb8.mono D7.out.size))
 have E8 := Lib.hid hb8
 have Y8 := Lib.hid hb8
 clear x0 x1 x2 x3 hb8 hc8
 obtain ⟨w9, hw9⟩ : ∃ w9, w9 = w8.alloc (.cells #[.int .i64 t1.states, .int .i64 t1.initial, .slice (some ⟨p11, 0, none⟩) t1.labels.length t1.labels.length, .slice (some ⟨p12, 0, none⟩) t1.edges.length t1.edges.length] 29) := ⟨_, rfl⟩
 have hb9 : Below w8.heap.size w8 w9 := by rw [hw9]; exact boxNew _ _ _
 obtain ⟨kx1, hkx1⟩ : ∃ kx1, kx1 = w8.heap.size := ⟨_, rfl⟩
 have XC1 : Hid (Blk w9 kx1 [.int .i64 t1.states, .int .i64 t1.initial, .slice (some ⟨p11, 0, none⟩) t1.labels.length t1.labels.length, .slice (some ⟨p12, 0, none⟩) t1.edges.length t1.edges.length] 29) := by unfold Hid; rw [hw9, hkx1]; exact Blk.new _ _ _
 have CQ1 := Lib.hid (CP1.out.below hb9)
 have HKX1 := Lib.hid hkx1
 have HW9 := Lib.hid hw9
 have hb61 : p12 < kx1 := by rw [hkx1]; exact CP1.out.h3
 have HB61 := Lib.hid hb61
 have HZX1 : Hid (w9.heap.size = kx1 + 1) := by unfold Hid; rw [hw9, hkx1]; simp
 have HBX1 : Hid (w7.heap.size ≤ kx1) := by unfold Hid; rw [hkx1]; exact (show w7.heap.size ≤ w8.heap.size from (by have := CP1.out.h1; have := CP1.out.h2; have := CP1.out.h3; omega))
 have D9 := Lib.hid (D8.out.trans (hb9.mono D8.out.size))
 have E9 := Lib.hid (E8.out.trans (hb9.mono E8.out.size))
 have Y9 := Lib.hid (Y8.out.trans (hb9.mono Y8.out.size))
 clear hb9 hw9 hkx1 hb61
 obtain ⟨x0, x1, x2, x3⟩ := blk4 (X2.out.below D9.out)
 rw [HW9.out] at x0 x1 x2 x3
 go_wp2_with fail
 rw [← HW9.out]
 refine Calls.mono (HT2.out _ D9.out) ?_
 rintro e w10 ⟨p21, p22, rfl, hb10, hc10⟩
 have CP2 := Lib.hid hc10
 have HBS2 : Hid (w7.heap.size ≤ w9.heap.size) := (Y9.out).size
 have D10 := Lib.hid (D9.out.trans (hb10.mono D9.out.size))
 have E10 := Lib.hid (E9.out.trans (hb10.mono E9.out.size))
 have Y10 := Lib.hid (Y9.out.trans (hb10.mono Y9.out.size))
 have P110 := Lib.hid hb10
 clear x0 x1 x2 x3 hb10 hc10
 obtain ⟨w11, hw11⟩ : ∃ w11, w11 = w10.alloc (.cells #[.int .i64 t2.states, .int .i64 t2.initial, .slice (some ⟨p21, 0, none⟩) t2.labels.length t2.labels.length, .slice (some ⟨p22, 0, none⟩) t2.edges.length t2.edges.length] 29) := ⟨_, rfl⟩
 have hb11 : Below w10.heap.size w10 w11 := by rw [hw11]; exact boxNew _ _ _
 obtain ⟨kx2, hkx2⟩ : ∃ kx2, kx2 = w10.heap.size := ⟨_, rfl⟩
 have XC2 : Hid (Blk w11 kx2 [.int .i64 t2.states, .int .i64 t2.initial, .slice (some ⟨p21, 0, none⟩) t2.labels.length t2.labels.length, .slice (some ⟨p22, 0, none⟩) t2.edges.length t2.edges.length] 29) := by unfold Hid; rw [hw11, hkx2]; exact Blk.new _ _ _
 have CQ2 := Lib.hid (CP2.out.below hb11)
 have HKX2 := Lib.hid hkx2
 have HW11 := Lib.hid hw11
 have hb62 : p22 < kx2 := by rw [hkx2]; exact CP2.out.h3
 have HB62 := Lib.hid hb62
 have HZX2 : Hid (w11.heap.size = kx2 + 1) := by unfold Hid; rw [hw11, hkx2]; simp
 have HBX2 : Hid (w9.heap.size ≤ kx2) := by unfold Hid; rw [hkx2]; exact (show w9.heap.size ≤ w10.heap.size from (by have := CP2.out.h1; have := CP2.out.h2; have := CP2.out.h3; omega))
 have D11 := Lib.hid (D10.out.trans (hb11.mono D10.out.size))
 have E11 := Lib.hid (E10.out.trans (hb11.mono E10.out.size))
 have Y11 := Lib.hid (Y10.out.trans (hb11.mono Y10.out.size))
 have P111 := Lib.hid (P110.out.trans (hb11.mono P110.out.size))
 clear hb11 hw11 hkx2 hb62
 have HWI1 : Hid (kx1 + 1 ≤ w11.heap.size) := by have := (P111.out).size; have := HZX1.out; unfold Hid; omega
 have HWI2 : Hid (kx2 + 1 ≤ w11.heap.size) := by have := ((Below.refl w11.heap.size w11)).size; have := HZX2.out; unfold Hid; omega
 have HWIS : Hid (w7.heap.size ≤ w11.heap.size) := (Y11.out).size
 obtain ⟨x0, x1, x2, x3⟩ := blk4 (XC1.out.below P111.out)
 rw [HW11.out] at x0 x1 x2 x3
 obtain ⟨y0, y1, y2, y3⟩ := blk4 (XC2.out.below (Below.refl w11.heap.size w11))
 have hlt1 := (XC1.out.below P111.out).lt
 have hlt2 := (XC2.out.below (Below.refl w11.heap.size w11)).lt
 have HGO := Lib.hid (HIMPL.out _ _ _ _ _ (CQ1.out.below P111.out).labels (CQ1.out.below P111.out).edges (CQ2.out.below (Below.refl w11.heap.size w11)).labels (CQ2.out.below (Below.refl w11.heap.size w11)).edges (HG.out.below D11.out))
 rw [← HKX1.out]
 go_wp2_with fail
 rw [← HW11.out, ← HKX2.out]
 refine Calls.mono HGO.out ?_
 rintro e w12 ⟨hb12, dg, codeg, lvG, evG, wvG, rfl, hisG, hoG0⟩
 obtain ⟨hq0, hq1⟩ := HIS.out.unique hisG
 subst hq0 hq1
 have HOG0 := Lib.hid hoG0
 have D12 := Lib.hid (D11.out.trans (hb12.mono D11.out.size))
 have E12 := Lib.hid (E11.out.trans (hb12.mono E11.out.size))
 have Y12 := Lib.hid (Y11.out.trans (hb12.mono Y11.out.size))
 have P112 := Lib.hid (P111.out.trans (hb12.mono P111.out.size))
 have P212 := Lib.hid hb12
 have I12 := Lib.hid hb12
 clear hisG hb12 HGO hoG0 x0 x1 x2 x3 y0 y1 y2 y3 hlt1 hlt2
 obtain ⟨alvG, clvG, rfl, -, -⟩ := owns_slice HOG0.out.1.1
 obtain ⟨aevG, cevG, rfl, -, -⟩ := owns_slice HOG0.out.1.2
 obtain ⟨awvG, cwvG, rfl, -, -⟩ := owns_slice HOG0.out.2
 have HKGI : Hid (w11.heap.size ≤ w12.heap.size) := (I12.out).size
 obtain ⟨w13, hw13⟩ : ∃ w13, w13 = w12.alloc (.cells #[.int .i64 d.sys.states, .int .i64 d.sys.initial, .slice alvG d.sys.labels.length clvG, .slice aevG d.sys.edges.length cevG, .slice awvG d.vs.length cwvG] 32) := ⟨_, rfl⟩
 have hb13 : Below w12.heap.size w12 w13 := by rw [hw13]; exact boxNew _ _ _
 obtain ⟨kG, hkG⟩ : ∃ kG, kG = w12.heap.size := ⟨_, rfl⟩
 have XG : Hid (Blk w13 kG [.int .i64 d.sys.states, .int .i64 d.sys.initial, .slice alvG d.sys.labels.length clvG, .slice aevG d.sys.edges.length cevG, .slice awvG d.vs.length cwvG] 32) := by unfold Hid; rw [hw13, hkG]; exact Blk.new _ _ _
 have HKG := Lib.hid hkG
 have HW13 := Lib.hid hw13
 have hzG : w13.heap.size = kG + 1 := by rw [hw13, hkG]; simp
 have HZG := Lib.hid hzG
 have D13 := Lib.hid (D12.out.trans (hb13.mono D12.out.size))
 have E13 := Lib.hid (E12.out.trans (hb13.mono E12.out.size))
 have Y13 := Lib.hid (Y12.out.trans (hb13.mono Y12.out.size))
 have P113 := Lib.hid (P112.out.trans (hb13.mono P112.out.size))
 have P213 := Lib.hid (P212.out.trans (hb13.mono P212.out.size))
 have I13 := Lib.hid (I12.out.trans (hb13.mono I12.out.size))
 have G13 := Lib.hid hb13
 clear hb13 hw13 hkG hzG
 rw [← HKG.out] at HKGI
 obtain ⟨u0, u1, u2, u3, u4⟩ := blk5 (XG.out.below (Below.refl w13.heap.size w13))
 obtain ⟨v0, v1, v2, v3, v4⟩ := blk5 (XS.out.below Y13.out)
 have hltu := (XG.out.below (Below.refl w13.heap.size w13)).lt
 have hltv := (XS.out.below Y13.out).lt
 rw [HW13.out] at v0 v1 v2 v3 v4
 go_wp2_with fail
 rw [← HW13.out, ← HKG.out]
 refine (eqMonitor_same _ _ d _ _ _ _ _ _ _ ((HOG0.out.below G13.out).at) ((HOS0.out.below E13.out).at)).mono ?_
 rintro e w14 ⟨rfl, hb14⟩
 have D14 := Lib.hid (D13.out.trans (hb14.mono D13.out.size))
 have E14 := Lib.hid (E13.out.trans (hb14.mono E13.out.size))
 have Y14 := Lib.hid (Y13.out.trans (hb14.mono Y13.out.size))
 have P114 := Lib.hid (P113.out.trans (hb14.mono P113.out.size))
 have P214 := Lib.hid (P213.out.trans (hb14.mono P213.out.size))
 have I14 := Lib.hid (I13.out.trans (hb14.mono I13.out.size))
 have G14 := Lib.hid (G13.out.trans (hb14.mono G13.out.size))
 have Q14 := Lib.hid hb14
 clear hb14 u0 u1 u2 u3 u4 v0 v1 v2 v3 v4 hltu hltv
 go_wp2_with fail
 have hDd : Below W1.heap.size W1 w14.drew := D14.out.drew
 have hPd := (P114.out).drew
 have G0 : Hid (w14.cell? ⟨kx1, 0, none⟩ = some (.int .i64 t1.states) ∧ w14.cell? ⟨kx1, 1, none⟩ = some (.int .i64 t1.initial) ∧ w14.cell? ⟨kx1, 2, none⟩ = some (.slice (some ⟨p11, 0, none⟩) t1.labels.length t1.labels.length) ∧ w14.cell? ⟨kx1, 3, none⟩ = some (.slice (some ⟨p12, 0, none⟩) t1.edges.length t1.edges.length) ∧ w14.cell? ⟨n0, 0, none⟩ = some (.int .i64 t1.states) ∧ w14.cell? ⟨n0, 1, none⟩ = some (.int .i64 t1.initial) ∧ w14.cell? ⟨n0, 2, none⟩ = some (l1) ∧ w14.cell? ⟨n0, 3, none⟩ = some (e1)) := ⟨(XC1.out.below P114.out).cell 0 rfl, (XC1.out.below P114.out).cell 1 rfl, (XC1.out.below P114.out).cell 2 rfl, (XC1.out.below P114.out).cell 3 rfl, (X1.out.below D14.out).cell 0 rfl, (X1.out.below D14.out).cell 1 rfl, (X1.out.below D14.out).cell 2 rfl, (X1.out.below D14.out).cell 3 rfl⟩
 have G1 : Hid (w14.drew.cell? ⟨kx1, 0, none⟩ = some (.int .i64 t1.states) ∧ w14.drew.cell? ⟨kx1, 1, none⟩ = some (.int .i64 t1.initial) ∧ w14.drew.cell? ⟨kx1, 2, none⟩ = some (.slice (some ⟨p11, 0, none⟩) t1.labels.length t1.labels.length) ∧ w14.drew.cell? ⟨kx1, 3, none⟩ = some (.slice (some ⟨p12, 0, none⟩) t1.edges.length t1.edges.length) ∧ w14.drew.cell? ⟨n0, 0, none⟩ = some (.int .i64 t1.states) ∧ w14.drew.cell? ⟨n0, 1, none⟩ = some (.int .i64 t1.initial) ∧ w14.drew.cell? ⟨n0, 2, none⟩ = some (l1) ∧ w14.drew.cell? ⟨n0, 3, none⟩ = some (e1)) := ⟨(XC1.out.below hPd).cell 0 rfl, (XC1.out.below hPd).cell 1 rfl, (XC1.out.below hPd).cell 2 rfl, (XC1.out.below hPd).cell 3 rfl, (X1.out.below hDd).cell 0 rfl, (X1.out.below hDd).cell 1 rfl, (X1.out.below hDd).cell 2 rfl, (X1.out.below hDd).cell 3 rfl⟩
 go_region_held3 (fun w' => w'.cell? ⟨kx1, 0, none⟩ = some (.int .i64 t1.states) ∧ w'.cell? ⟨kx1, 1, none⟩ = some (.int .i64 t1.initial) ∧ w'.cell? ⟨kx1, 2, none⟩ = some (.slice (some ⟨p11, 0, none⟩) t1.labels.length t1.labels.length) ∧ w'.cell? ⟨kx1, 3, none⟩ = some (.slice (some ⟨p12, 0, none⟩) t1.edges.length t1.edges.length) ∧ w'.cell? ⟨n0, 0, none⟩ = some (.int .i64 t1.states) ∧ w'.cell? ⟨n0, 1, none⟩ = some (.int .i64 t1.initial) ∧ w'.cell? ⟨n0, 2, none⟩ = some (l1) ∧ w'.cell? ⟨n0, 3, none⟩ = some (e1))
  (first | exact G0.out | exact G1.out | exact G2.out | exact G3.out | go_keep)
  (first
   | (go_at_call 6; refine Calls.mono (HT1.out _ hDd) ?_; rintro e w15 ⟨b151, b152, rfl, hb15, hc15⟩; have hD2 := hDd.trans (hb15.mono hDd.size); have hP2 := hPd.trans (hb15.mono hPd.size); have G2 : Hid (w15.cell? ⟨kx1, 0, none⟩ = some (.int .i64 t1.states) ∧ w15.cell? ⟨kx1, 1, none⟩ = some (.int .i64 t1.initial) ∧ w15.cell? ⟨kx1, 2, none⟩ = some (.slice (some ⟨p11, 0, none⟩) t1.labels.length t1.labels.length) ∧ w15.cell? ⟨kx1, 3, none⟩ = some (.slice (some ⟨p12, 0, none⟩) t1.edges.length t1.edges.length) ∧ w15.cell? ⟨n0, 0, none⟩ = some (.int .i64 t1.states) ∧ w15.cell? ⟨n0, 1, none⟩ = some (.int .i64 t1.initial) ∧ w15.cell? ⟨n0, 2, none⟩ = some (l1) ∧ w15.cell? ⟨n0, 3, none⟩ = some (e1)) := ⟨(XC1.out.below hP2).cell 0 rfl, (XC1.out.below hP2).cell 1 rfl, (XC1.out.below hP2).cell 2 rfl, (XC1.out.below hP2).cell 3 rfl, (X1.out.below hD2).cell 0 rfl, (X1.out.below hD2).cell 1 rfl, (X1.out.below hD2).cell 2 rfl, (X1.out.below hD2).cell 3 rfl⟩)
   | (go_at_call 9; refine (eqLts_same _ _ 0 0 t1 _ (CQ1.out.below hP2).at hc15.at).mono ?_; rintro e w16 ⟨rfl, hb16⟩; have hD3 := hD2.trans (hb16.mono hD2.size); have hP3 := hP2.trans (hb16.mono hP2.size); have G3 : Hid (w16.cell? ⟨kx1, 0, none⟩ = some (.int .i64 t1.states) ∧ w16.cell? ⟨kx1, 1, none⟩ = some (.int .i64 t1.initial) ∧ w16.cell? ⟨kx1, 2, none⟩ = some (.slice (some ⟨p11, 0, none⟩) t1.labels.length t1.labels.length) ∧ w16.cell? ⟨kx1, 3, none⟩ = some (.slice (some ⟨p12, 0, none⟩) t1.edges.length t1.edges.length) ∧ w16.cell? ⟨n0, 0, none⟩ = some (.int .i64 t1.states) ∧ w16.cell? ⟨n0, 1, none⟩ = some (.int .i64 t1.initial) ∧ w16.cell? ⟨n0, 2, none⟩ = some (l1) ∧ w16.cell? ⟨n0, 3, none⟩ = some (e1)) := ⟨(XC1.out.below hP3).cell 0 rfl, (XC1.out.below hP3).cell 1 rfl, (XC1.out.below hP3).cell 2 rfl, (XC1.out.below hP3).cell 3 rfl, (X1.out.below hD3).cell 0 rfl, (X1.out.below hD3).cell 1 rfl, (X1.out.below hD3).cell 2 rfl, (X1.out.below hD3).cell 3 rfl⟩))
 have hall16 : Below w14.heap.size w14 w16 := (((Below.refl w14.heap.size w14).drew).trans (hb15.mono (by simp))).trans (hb16.mono (Nat.le_trans (by simp) hb15.size))
 have D16 := Lib.hid (D14.out.trans (hall16.mono D14.out.size))
 have E16 := Lib.hid (E14.out.trans (hall16.mono E14.out.size))
 have Y16 := Lib.hid (Y14.out.trans (hall16.mono Y14.out.size))
 have P116 := Lib.hid (P114.out.trans (hall16.mono P114.out.size))
 have P216 := Lib.hid (P214.out.trans (hall16.mono P214.out.size))
 have I16 := Lib.hid (I14.out.trans (hall16.mono I14.out.size))
 have G16 := Lib.hid (G14.out.trans (hall16.mono G14.out.size))
 have Q16 := Lib.hid (Q14.out.trans (hall16.mono Q14.out.size))
 clear hDd hPd hD2 hP2 hD3 hP3 G0 G1 G2 G3 hall16 hb15 hc15 hb16
 go_wp2_with fail
 have hDd : Below W1.heap.size W1 w16.drew := D16.out.drew
 have hPd := (P216.out).drew
 have G0 : Hid (w16.cell? ⟨kx2, 0, none⟩ = some (.int .i64 t2.states) ∧ w16.cell? ⟨kx2, 1, none⟩ = some (.int .i64 t2.initial) ∧ w16.cell? ⟨kx2, 2, none⟩ = some (.slice (some ⟨p21, 0, none⟩) t2.labels.length t2.labels.length) ∧ w16.cell? ⟨kx2, 3, none⟩ = some (.slice (some ⟨p22, 0, none⟩) t2.edges.length t2.edges.length) ∧ w16.cell? ⟨n0 + 1, 0, none⟩ = some (.int .i64 t2.states) ∧ w16.cell? ⟨n0 + 1, 1, none⟩ = some (.int .i64 t2.initial) ∧ w16.cell? ⟨n0 + 1, 2, none⟩ = some (l2) ∧ w16.cell? ⟨n0 + 1, 3, none⟩ = some (e2)) := ⟨(XC2.out.below P216.out).cell 0 rfl, (XC2.out.below P216.out).cell 1 rfl, (XC2.out.below P216.out).cell 2 rfl, (XC2.out.below P216.out).cell 3 rfl, (X2.out.below D16.out).cell 0 rfl, (X2.out.below D16.out).cell 1 rfl, (X2.out.below D16.out).cell 2 rfl, (X2.out.below D16.out).cell 3 rfl⟩
 have G1 : Hid (w16.drew.cell? ⟨kx2, 0, none⟩ = some (.int .i64 t2.states) ∧ w16.drew.cell? ⟨kx2, 1, none⟩ = some (.int .i64 t2.initial) ∧ w16.drew.cell? ⟨kx2, 2, none⟩ = some (.slice (some ⟨p21, 0, none⟩) t2.labels.length t2.labels.length) ∧ w16.drew.cell? ⟨kx2, 3, none⟩ = some (.slice (some ⟨p22, 0, none⟩) t2.edges.length t2.edges.length) ∧ w16.drew.cell? ⟨n0 + 1, 0, none⟩ = some (.int .i64 t2.states) ∧ w16.drew.cell? ⟨n0 + 1, 1, none⟩ = some (.int .i64 t2.initial) ∧ w16.drew.cell? ⟨n0 + 1, 2, none⟩ = some (l2) ∧ w16.drew.cell? ⟨n0 + 1, 3, none⟩ = some (e2)) := ⟨(XC2.out.below hPd).cell 0 rfl, (XC2.out.below hPd).cell 1 rfl, (XC2.out.below hPd).cell 2 rfl, (XC2.out.below hPd).cell 3 rfl, (X2.out.below hDd).cell 0 rfl, (X2.out.below hDd).cell 1 rfl, (X2.out.below hDd).cell 2 rfl, (X2.out.below hDd).cell 3 rfl⟩
 go_region_held3 (fun w' => w'.cell? ⟨kx2, 0, none⟩ = some (.int .i64 t2.states) ∧ w'.cell? ⟨kx2, 1, none⟩ = some (.int .i64 t2.initial) ∧ w'.cell? ⟨kx2, 2, none⟩ = some (.slice (some ⟨p21, 0, none⟩) t2.labels.length t2.labels.length) ∧ w'.cell? ⟨kx2, 3, none⟩ = some (.slice (some ⟨p22, 0, none⟩) t2.edges.length t2.edges.length) ∧ w'.cell? ⟨n0 + 1, 0, none⟩ = some (.int .i64 t2.states) ∧ w'.cell? ⟨n0 + 1, 1, none⟩ = some (.int .i64 t2.initial) ∧ w'.cell? ⟨n0 + 1, 2, none⟩ = some (l2) ∧ w'.cell? ⟨n0 + 1, 3, none⟩ = some (e2))
  (first | exact G0.out | exact G1.out | exact G2.out | exact G3.out | go_keep)
  (first
   | (go_at_call 6; refine Calls.mono (HT2.out _ hDd) ?_; rintro e w17 ⟨b171, b172, rfl, hb17, hc17⟩; have hD2 := hDd.trans (hb17.mono hDd.size); have hP2 := hPd.trans (hb17.mono hPd.size); have G2 : Hid (w17.cell? ⟨kx2, 0, none⟩ = some (.int .i64 t2.states) ∧ w17.cell? ⟨kx2, 1, none⟩ = some (.int .i64 t2.initial) ∧ w17.cell? ⟨kx2, 2, none⟩ = some (.slice (some ⟨p21, 0, none⟩) t2.labels.length t2.labels.length) ∧ w17.cell? ⟨kx2, 3, none⟩ = some (.slice (some ⟨p22, 0, none⟩) t2.edges.length t2.edges.length) ∧ w17.cell? ⟨n0 + 1, 0, none⟩ = some (.int .i64 t2.states) ∧ w17.cell? ⟨n0 + 1, 1, none⟩ = some (.int .i64 t2.initial) ∧ w17.cell? ⟨n0 + 1, 2, none⟩ = some (l2) ∧ w17.cell? ⟨n0 + 1, 3, none⟩ = some (e2)) := ⟨(XC2.out.below hP2).cell 0 rfl, (XC2.out.below hP2).cell 1 rfl, (XC2.out.below hP2).cell 2 rfl, (XC2.out.below hP2).cell 3 rfl, (X2.out.below hD2).cell 0 rfl, (X2.out.below hD2).cell 1 rfl, (X2.out.below hD2).cell 2 rfl, (X2.out.below hD2).cell 3 rfl⟩)
   | (go_at_call 9; refine (eqLts_same _ _ 0 0 t2 _ (CQ2.out.below hP2).at hc17.at).mono ?_; rintro e w18 ⟨rfl, hb18⟩; have hD3 := hD2.trans (hb18.mono hD2.size); have hP3 := hP2.trans (hb18.mono hP2.size); have G3 : Hid (w18.cell? ⟨kx2, 0, none⟩ = some (.int .i64 t2.states) ∧ w18.cell? ⟨kx2, 1, none⟩ = some (.int .i64 t2.initial) ∧ w18.cell? ⟨kx2, 2, none⟩ = some (.slice (some ⟨p21, 0, none⟩) t2.labels.length t2.labels.length) ∧ w18.cell? ⟨kx2, 3, none⟩ = some (.slice (some ⟨p22, 0, none⟩) t2.edges.length t2.edges.length) ∧ w18.cell? ⟨n0 + 1, 0, none⟩ = some (.int .i64 t2.states) ∧ w18.cell? ⟨n0 + 1, 1, none⟩ = some (.int .i64 t2.initial) ∧ w18.cell? ⟨n0 + 1, 2, none⟩ = some (l2) ∧ w18.cell? ⟨n0 + 1, 3, none⟩ = some (e2)) := ⟨(XC2.out.below hP3).cell 0 rfl, (XC2.out.below hP3).cell 1 rfl, (XC2.out.below hP3).cell 2 rfl, (XC2.out.below hP3).cell 3 rfl, (X2.out.below hD3).cell 0 rfl, (X2.out.below hD3).cell 1 rfl, (X2.out.below hD3).cell 2 rfl, (X2.out.below hD3).cell 3 rfl⟩))
 have hall18 : Below w16.heap.size w16 w18 := (((Below.refl w16.heap.size w16).drew).trans (hb17.mono (by simp))).trans (hb18.mono (Nat.le_trans (by simp) hb17.size))
 have D18 := Lib.hid (D16.out.trans (hall18.mono D16.out.size))
 have E18 := Lib.hid (E16.out.trans (hall18.mono E16.out.size))
 have Y18 := Lib.hid (Y16.out.trans (hall18.mono Y16.out.size))
 have P118 := Lib.hid (P116.out.trans (hall18.mono P116.out.size))
 have P218 := Lib.hid (P216.out.trans (hall18.mono P216.out.size))
 have I18 := Lib.hid (I16.out.trans (hall18.mono I16.out.size))
 have G18 := Lib.hid (G16.out.trans (hall18.mono G16.out.size))
 have Q18 := Lib.hid (Q16.out.trans (hall18.mono Q16.out.size))
 clear hDd hPd hD2 hP2 hD3 hP3 G0 G1 G2 G3 hall18 hb17 hc17 hb18
 have HWIc : Hid (w11.heap.size ≤ w18.heap.size) := (I18.out).size
 have hcq := CQ1.out.below P118.out
 have hln := HLN1.out
 have hb6 := HB61.out
 have hbx := HBX1.out
 have hkl := (XC1.out.below P118.out).lt
 obtain ⟨N1, hN1⟩ : ∃ N : Int, N = 1 + (t1.labels.length : Int) + 3 * (t1.edges.length : Int) := ⟨_, rfl⟩
 have hNz1 : 0 ≤ N1 := by omega
 have hNb1 : N1 ≤ 5000000 := by omega
 have HM := Lib.hid (markLts_any w7.heap.size kx1 p11 p12 t1.labels.length t1.edges.length t1.states t1.initial _ _ 1 w18 (by decide) (by omega) hcq.h1 (by have := hcq.h2; omega) (by have := hcq.h1; have := hcq.h2; omega) hb6 (by omega) (by have := hcq.h2; omega) hcq.o1 (own_lower hcq.o2 (by have := hcq.h1; have := hcq.h2; omega)))
 rw [← hN1] at HM
 have HN1 := Lib.hid hN1
 have hlow := hcq.h1
 have HLW : Hid (w7.heap.size ≤ w18.heap.size) := by unfold Hid; omega
 obtain ⟨x0, x1, x2, x3⟩ := blk4 (XC1.out.below P118.out)
 clear hcq hln hb6 hbx hlow hN1
 go_wp2_with fail
 refine Calls.mono HM.out ?_
 rintro e w19 ⟨rfl, ht19⟩
 have hb19 : Below w7.heap.size w18 w19 := below_turns ht19 HLW.out
 have D19 := Lib.hid (D18.out.trans (hb19.mono (show W1.heap.size ≤ w7.heap.size from by have := HWS1.out; have := HBS1.out; omega)))
 have E19 := Lib.hid ((E18.out).trans (hb19.mono (show w7.heap.size ≤ w7.heap.size from by have := HBS1.out; have := HSS.out; omega)))
 have Y19 := Lib.hid ((Y18.out).trans (hb19.mono (show w7.heap.size ≤ w7.heap.size from by have := HBS1.out; have := HSS.out; omega)))
 have XC2' : Hid (Blk w19 kx2 _ 29) := (XC2.out.below P218.out).turns ht19 (.inr (by have := HBX2.out; have := HZX1.out; have := HBS2.out; omega))
 have CQ2' := Lib.hid ((CQ2.out.below P218.out).turns ht19 (by have := HZX1.out; have := HBS2.out; omega))
 clear XC2 CQ2
 have XC2 := XC2'
 clear XC2'
 have CQ2 := CQ2'
 clear CQ2'
 have HOGx0 := Lib.hid ((HOG0.out.below G18.out).turns ht19 (show kx1 ≤ w11.heap.size from by have := HZX1.out; have := HWI1.out; omega))
 clear HOG0
 have HOG0 := HOGx0
 clear HOGx0
 have XGx : Hid (Blk w19 kG _ 32) := (XG.out.below Q18.out).turns ht19 (.inr (show kx1 ≤ kG from by have := HZX1.out; have := HWI1.out; have := HKGI.out; omega))
 clear XG
 have XG := XGx
 clear XGx
 have HWM19 : Hid (w11.heap.size ≤ w19.heap.size) := by have := HWIc.out; have := ht19.size; unfold Hid; omega
 clear HWIc
 have HWIc := HWM19
 clear HWM19
 clear x0 x1 x2 x3 hkl HM HLW hb19 ht19
 have hcq := CQ2.out.below (Below.refl w19.heap.size w19)
 have hln := HLN2.out
 have hb6 := HB62.out
 have hbx := HBX2.out
 have hkl := (XC2.out.below (Below.refl w19.heap.size w19)).lt
 obtain ⟨N2, hN2⟩ : ∃ N : Int, N = N1 + (t2.labels.length : Int) + 3 * (t2.edges.length : Int) := ⟨_, rfl⟩
 have hNz2 : 0 ≤ N2 := by omega
 have hNb2 : N2 ≤ 10000000 := by omega
 have HM := Lib.hid (markLts_any w9.heap.size kx2 p21 p22 t2.labels.length t2.edges.length t2.states t2.initial _ _ N1 w19 hNz1 (by omega) hcq.h1 (by have := hcq.h2; omega) (by have := hcq.h1; have := hcq.h2; omega) hb6 (by omega) (by have := hcq.h2; omega) hcq.o1 (own_lower hcq.o2 (by have := hcq.h1; have := hcq.h2; omega)))
 rw [← hN2] at HM
 have HN2 := Lib.hid hN2
 have hlow := hcq.h1
 have HLW : Hid (w9.heap.size ≤ w19.heap.size) := by unfold Hid; omega
 obtain ⟨x0, x1, x2, x3⟩ := blk4 (XC2.out.below (Below.refl w19.heap.size w19))
 clear hcq hln hb6 hbx hlow hN2
 go_wp2_with fail
 refine Calls.mono HM.out ?_
 rintro e w20 ⟨rfl, ht20⟩
 have hb20 : Below w9.heap.size w19 w20 := below_turns ht20 HLW.out
 have D20 := Lib.hid (D19.out.trans (hb20.mono (show W1.heap.size ≤ w9.heap.size from by have := HWS1.out; have := HBS2.out; omega)))
 have E20 := Lib.hid ((E19.out).trans (hb20.mono (show w7.heap.size ≤ w9.heap.size from by have := HBS2.out; have := HSS.out; omega)))
 have Y20 := Lib.hid ((Y19.out).trans (hb20.mono (show w7.heap.size ≤ w9.heap.size from by have := HBS2.out; have := HSS.out; omega)))
 have HOGx0 := Lib.hid ((HOG0.out.below (Below.refl w19.heap.size w19)).turns ht20 (show kx2 ≤ w11.heap.size from by have := HZX2.out; have := HWI2.out; omega))
 clear HOG0
 have HOG0 := HOGx0
 clear HOGx0
 have XGx : Hid (Blk w20 kG _ 32) := (XG.out.below (Below.refl w19.heap.size w19)).turns ht20 (.inr (show kx2 ≤ kG from by have := HZX2.out; have := HWI2.out; have := HKGI.out; omega))
 clear XG
 have XG := XGx
 clear XGx
 have HWM20 : Hid (w11.heap.size ≤ w20.heap.size) := by have := HWIc.out; have := ht20.size; unfold Hid; omega
 clear HWIc
 have HWIc := HWM20
 clear HWM20
 clear x0 x1 x2 x3 hkl HM HLW hb20 ht20
 obtain ⟨u0, u1, u2, u3, u4⟩ := blk5 (XG.out.below (Below.refl w20.heap.size w20))
 obtain ⟨v0, v1, v2, v3, v4⟩ := blk5 (XS.out.below Y20.out)
 have hltu := (XG.out.below (Below.refl w20.heap.size w20)).lt
 have hltv := (XS.out.below Y20.out).lt
 go_wp2_with fail
 refine (eqMonitor_same _ _ d _ _ _ _ _ _ _ ((HOG0.out.below (Below.refl w20.heap.size w20)).at) ((HOS0.out.below E20.out).at)).mono ?_
 rintro e w21 ⟨rfl, hb21⟩
 have D21 := Lib.hid (D20.out.trans (hb21.mono D20.out.size))
 have E21 := Lib.hid (E20.out.trans (hb21.mono E20.out.size))
 have Y21 := Lib.hid (Y20.out.trans (hb21.mono Y20.out.size))
 have G21 := Lib.hid hb21
 have Q21 := Lib.hid hb21
 clear hb21 u0 u1 u2 u3 u4 v0 v1 v2 v3 v4 hltu hltv
 have hwI : w11.heap.size ≤ w21.heap.size := by have := HWIc.out; have := (G21.out).size; omega
 have hfew := HIS.out.few
 obtain ⟨Z0, hZ0⟩ : ∃ Z : Int, Z = 1 + markLenM d := ⟨_, rfl⟩
 have hZz0 : 0 ≤ Z0 ∧ Z0 ≤ 10000000 := by unfold markLenM markLen at *; omega
 have HMK := Lib.hid (markMonitor_is w11.heap.size _ _ _ d d.sys.states d.sys.initial 1 _ (by decide) (by omega) hwI (HOG0.out.below G21.out))
 rw [← hZ0] at HMK
 have HZZ0 := Lib.hid hZ0
 obtain ⟨u0, u1, u2, u3, u4⟩ := blk5 (XG.out.below Q21.out)
 have hltu := (XG.out.below Q21.out).lt
 clear hZ0
 go_wp2_with fail
 refine Calls.mono HMK.out ?_
 rintro e w22 ⟨rfl, hb22, hom, hon⟩
 have HOM := Lib.hid hom
 have HON := Lib.hid hon
 have D22 := Lib.hid (D21.out.trans (hb22.mono (show W1.heap.size ≤ w11.heap.size from by have := HWS1.out; have := HWIS.out; omega)))
 have E22 := Lib.hid ((E21.out).trans (hb22.mono (show w7.heap.size ≤ w11.heap.size from by have := HWIS.out; have := HSS.out; omega)))
 have Y22 := Lib.hid ((Y21.out).trans (hb22.mono (show w7.heap.size ≤ w11.heap.size from by have := HWIS.out; have := HSS.out; omega)))
 clear HOG0
 have HOG0 := HOM
 clear HOM
 have XGx : Hid (Blk w22 kG _ 32) := HON.out.blk (XG.out.below Q21.out) (by decide)
 clear XG
 have XG := XGx
 clear XGx
 have hwI' : w11.heap.size ≤ w22.heap.size := Nat.le_trans hwI hb22.size
 clear hwI hb22 hom hon HON HMK u0 u1 u2 u3 u4 hltu
 have hwI := hwI'
 clear hwI'
 obtain ⟨u0, u1, u2, u3, u4⟩ := blk5 (XG.out.below (Below.refl w22.heap.size w22))
 have hltu := (XG.out.below (Below.refl w22.heap.size w22)).lt
 have HHE := Lib.hid (heldMonitor_is w11.heap.size _ _ _ d d.sys.states d.sys.initial 1 _ (by decide) (by have := HZZ0.out; have := hZz0; omega) (HOG0.out.below (Below.refl w22.heap.size w22)))
 rw [← HZZ0.out] at HHE
 go_wp2_with fail
 refine Calls.mono HHE.out ?_
 rintro e w23 ⟨rfl, hb23⟩
 have D23 := Lib.hid (D22.out.trans (hb23.mono D22.out.size))
 have E23 := Lib.hid (E22.out.trans (hb23.mono E22.out.size))
 have Y23 := Lib.hid (Y22.out.trans (hb23.mono Y22.out.size))
 have G23 := Lib.hid hb23
 have Q23 := Lib.hid hb23
 clear hb23 HHE
 clear u0 u1 u2 u3 u4 hltu
 go_wp2_with fail
 have HGW : Hid (∀ W, Below W1.heap.size W1 W → W.cell? ⟨n0, 0, none⟩ = some (.int .i64 t1.states) ∧ W.cell? ⟨n0, 1, none⟩ = some (.int .i64 t1.initial) ∧ W.cell? ⟨n0, 2, none⟩ = some (l1) ∧ W.cell? ⟨n0, 3, none⟩ = some (e1) ∧ W.cell? ⟨n0 + 1, 0, none⟩ = some (.int .i64 t2.states) ∧ W.cell? ⟨n0 + 1, 1, none⟩ = some (.int .i64 t2.initial) ∧ W.cell? ⟨n0 + 1, 2, none⟩ = some (l2) ∧ W.cell? ⟨n0 + 1, 3, none⟩ = some (e2)) := fun W hW => ⟨(X1.out.below hW).cell 0 rfl, (X1.out.below hW).cell 1 rfl, (X1.out.below hW).cell 2 rfl, (X1.out.below hW).cell 3 rfl, (X2.out.below hW).cell 0 rfl, (X2.out.below hW).cell 1 rfl, (X2.out.below hW).cell 2 rfl, (X2.out.below hW).cell 3 rfl⟩
 have hDd : Below W1.heap.size W1 w23.drew := D23.out.drew
 have HDZ : Hid (∀ o, Below W1.heap.size W1 (w23.alloc o).drew) := fun o => (D23.out.alloc D23.out.size o).drew
 have HSd : Hid (Below w23.heap.size w23 w23.drew) := (Below.refl _ _).drew
 have HSZ : Hid (∀ o, Below w23.heap.size w23 (w23.alloc o).drew) := fun o => ((Below.refl _ _).alloc (Nat.le_refl _) o).drew
 have HZ3 : Hid (Blk (w23.alloc (.cells #[.int .i64 0, .int .i64 0, .slice none 0 0, .slice none 0 0, .slice none 0 0] 32)).drew w23.heap.size [.int .i64 0, .int .i64 0, .slice none 0 0, .slice none 0 0, .slice none 0 0] 32) := (blk_at w23 [.int .i64 0, .int .i64 0, .slice none 0 0, .slice none 0 0, .slice none 0 0] 32 rfl).below (Below.refl _ _).drew
 have hDs : W1.heap.size ≤ w23.heap.size := D23.out.size
 have G0 := Lib.hid (HGW.out _ D23.out)
 have G1 := Lib.hid (HGW.out _ hDd)
 go_cut [15, 16] from 17 (fun vb vc wx => ∃ (k : Nat) (d : Mon) (code : Int) (alvH aevH awvH : Option Addr) (clvH cevH cwvH : Nat), vb = .pointer (some ⟨k, 0, none⟩) ∧ vc = .int .i64 code ∧ Below w23.heap.size w23 wx ∧ Blk wx k [.int .i64 d.sys.states, .int .i64 d.sys.initial, .slice alvH d.sys.labels.length clvH, .slice aevH d.sys.edges.length cevH, .slice awvH d.vs.length cwvH] 32 ∧ MkMIs t1 t2 d code ∧ OwnMon w23.heap.size wx (.slice alvH d.sys.labels.length clvH) (.slice aevH d.sys.edges.length cevH) (.slice awvH d.vs.length cwvH) d)
 case first =>
  go_region_held3 (fun w' => w'.cell? ⟨n0, 0, none⟩ = some (.int .i64 t1.states) ∧ w'.cell? ⟨n0, 1, none⟩ = some (.int .i64 t1.initial) ∧ w'.cell? ⟨n0, 2, none⟩ = some (l1) ∧ w'.cell? ⟨n0, 3, none⟩ = some (e1) ∧ w'.cell? ⟨n0 + 1, 0, none⟩ = some (.int .i64 t2.states) ∧ w'.cell? ⟨n0 + 1, 1, none⟩ = some (.int .i64 t2.initial) ∧ w'.cell? ⟨n0 + 1, 2, none⟩ = some (l2) ∧ w'.cell? ⟨n0 + 1, 3, none⟩ = some (e2))
   (first | (with_reducible exact G0.out) | (with_reducible exact G1.out) | (with_reducible exact HGW.out _ (HDZ.out _)) | (with_reducible exact HGW.out _ hD24) | (with_reducible exact HGW.out _ (hD24.alloc hD24.size _)) | (with_reducible exact HGW.out _ hD25) | (with_reducible exact HGW.out _ (hD25.alloc hD25.size _)) | (with_reducible exact HGW.out _ hD26) | (with_reducible exact HGW.out _ (hD26.alloc hD26.size _)) | (with_reducible exact HGW.out _ (((((hD26.setCell hk _).setCell hk _).setCell hk _).setCell hk _).setCell hk _)) | go_keep)
   (first
    | (go_at_call_of 6 (Value.agg #[Value.int .i64 t1.states, Value.int .i64 t1.initial, l1, e1]); refine Calls.mono (HT1.out _ (by first | with_reducible exact hDd | with_reducible exact HDZ.out _)) ?_; rintro e w24 ⟨b241, b242, rfl, hb24, hc24⟩; have hD24 : Below W1.heap.size W1 w24 := (by first | with_reducible exact hDd.trans (hb24.mono hDd.size) | with_reducible exact (HDZ.out _).trans (hb24.mono (HDZ.out _).size)); have hS24 : Below w23.heap.size w23 w24 := (by first | with_reducible exact HSd.out.trans (hb24.mono HSd.out.size) | with_reducible exact (HSZ.out _).trans (hb24.mono (HSZ.out _).size)); (try (have QA1 : Hid (Blk w24 w23.heap.size [.int .i64 0, .int .i64 0, .slice none 0 0, .slice none 0 0, .slice none 0 0] 32) := Lib.hid (by with_reducible exact HZ3.out.below hb24))))
    | (go_at_call_of 6 (Value.agg #[Value.int .i64 t2.states, Value.int .i64 t2.initial, l2, e2]); refine Calls.mono (HT2.out _ (by first | with_reducible exact hD24 | with_reducible exact hD24.alloc hD24.size _)) ?_; rintro e w25 ⟨b251, b252, rfl, hb25, hc25⟩; have h12 : Below w24.heap.size w24 w25 := (by first | with_reducible exact hb25 | with_reducible exact (boxNew _ _ _).trans (hb25.mono (boxNew _ _ _).size)); have hD25 := hD24.trans (h12.mono hD24.size); have hS25 := hS24.trans (h12.mono hS24.size); (try (have QA2 : Hid (Blk w25 w23.heap.size [.int .i64 0, .int .i64 0, .slice none 0 0, .slice none 0 0, .slice none 0 0] 32) := Lib.hid (by with_reducible exact QA1.out.below h12))); (try (have QB2 : Hid (Blk w25 w24.heap.size [.int .i64 0, .int .i64 0, .slice none 0 0, .slice none 0 0, .slice none 0 0] 32) := Lib.hid (by with_reducible exact (blk_at w24 [.int .i64 0, .int .i64 0, .slice none 0 0, .slice none 0 0, .slice none 0 0] 32 rfl).below hb25))); have HCALL := Lib.hid (fun (W : World) (hW : Below w25.heap.size w25 W) => HIMPL.out _ _ _ _ W ((hc24.below h12).below hW).labels ((hc24.below h12).below hW).edges (hc25.below hW).labels (hc25.below hW).edges (HG.out.below (hD25.trans (hW.mono hD25.size)))))
    | (go_at_call 7; refine Calls.mono (HCALL.out _ (by first | with_reducible exact Below.refl _ _ | with_reducible exact boxNew _ _ _)) ?_; rintro e w26 ⟨hb26, d, code, lvx, evx, wvx, rfl, hisx, hox⟩; obtain ⟨alvH, clvH, rfl, -, -⟩ := owns_slice hox.1.1; obtain ⟨aevH, cevH, rfl, -, -⟩ := owns_slice hox.1.2; obtain ⟨awvH, cwvH, rfl, -, -⟩ := owns_slice hox.2; have h23 : Below w25.heap.size w25 w26 := (by first | with_reducible exact hb26 | with_reducible exact (boxNew _ _ _).trans (hb26.mono (boxNew _ _ _).size)); have hD26 := hD25.trans (h23.mono hD25.size); have hS26 := hS25.trans (h23.mono hS25.size); have hol : OwnMon w23.heap.size w26 (.slice alvH d.sys.labels.length clvH) (.slice aevH d.sys.edges.length cevH) (.slice awvH d.vs.length cwvH) d := (by first | with_reducible exact hox.lower hS25.size | with_reducible exact hox.lower (Nat.le_trans hS25.size (boxNew _ _ _).size)); (try (have QA3 : Hid (Blk w26 w23.heap.size [.int .i64 0, .int .i64 0, .slice none 0 0, .slice none 0 0, .slice none 0 0] 32) := Lib.hid (by with_reducible exact QA2.out.below h23))); (try (have QB3 : Hid (Blk w26 w24.heap.size [.int .i64 0, .int .i64 0, .slice none 0 0, .slice none 0 0, .slice none 0 0] 32) := Lib.hid (by with_reducible exact QB2.out.below h23))); (try (have QC3 : Hid (Blk w26 w25.heap.size [.int .i64 0, .int .i64 0, .slice none 0 0, .slice none 0 0, .slice none 0 0] 32) := Lib.hid (by with_reducible exact (blk_at w25 [.int .i64 0, .int .i64 0, .slice none 0 0, .slice none 0 0, .slice none 0 0] 32 rfl).below hb26))); (try (have zc0 := QA3.out.cell 0 rfl; have zc1 := QA3.out.cell 1 rfl; have zc2 := QA3.out.cell 2 rfl; have zc3 := QA3.out.cell 3 rfl; have zc4 := QA3.out.cell 4 rfl; have zf0 := QA3.out.frozen 0; have zf1 := QA3.out.frozen 1; have zf2 := QA3.out.frozen 2; have zf3 := QA3.out.frozen 3; have zf4 := QA3.out.frozen 4; have hk : W1.heap.size ≤ w23.heap.size := (by exact hDs))); (try (have zc0 := QB3.out.cell 0 rfl; have zc1 := QB3.out.cell 1 rfl; have zc2 := QB3.out.cell 2 rfl; have zc3 := QB3.out.cell 3 rfl; have zc4 := QB3.out.cell 4 rfl; have zf0 := QB3.out.frozen 0; have zf1 := QB3.out.frozen 1; have zf2 := QB3.out.frozen 2; have zf3 := QB3.out.frozen 3; have zf4 := QB3.out.frozen 4; have hk : W1.heap.size ≤ w24.heap.size := (by exact hD24.size))); (try (have zc0 := QC3.out.cell 0 rfl; have zc1 := QC3.out.cell 1 rfl; have zc2 := QC3.out.cell 2 rfl; have zc3 := QC3.out.cell 3 rfl; have zc4 := QC3.out.cell 4 rfl; have zf0 := QC3.out.frozen 0; have zf1 := QC3.out.frozen 1; have zf2 := QC3.out.frozen 2; have zf3 := QC3.out.frozen 3; have zf4 := QC3.out.frozen 4; have hk : W1.heap.size ≤ w25.heap.size := (by exact hD25.size))); skip)
    | fail)
  all_goals (
   first
    | (have h1 := five_sets (v0 := .int .i64 d.sys.states) (v1 := .int .i64 d.sys.initial) (v2 := .slice alvH d.sys.labels.length clvH) (v3 := .slice aevH d.sys.edges.length cevH) (v4 := .slice awvH d.vs.length cwvH) QA3.out hS26 (Nat.le_refl _); go_wp2_with fail; go_meet; case rel => exact ⟨_, d, code, _, _, _, _, _, _, rfl, rfl, h1.1, h1.2.1, hisx, ⟨h1.2.2 hol.1.1 (by decide), h1.2.2 hol.1.2 (by decide)⟩, h1.2.2 hol.2 (by decide)⟩)
    | (have h1 := five_sets (v0 := .int .i64 d.sys.states) (v1 := .int .i64 d.sys.initial) (v2 := .slice alvH d.sys.labels.length clvH) (v3 := .slice aevH d.sys.edges.length cevH) (v4 := .slice awvH d.vs.length cwvH) QB3.out hS26 hS24.size; go_wp2_with fail; go_meet; case rel => exact ⟨_, d, code, _, _, _, _, _, _, rfl, rfl, h1.1, h1.2.1, hisx, ⟨h1.2.2 hol.1.1 (by decide), h1.2.2 hol.1.2 (by decide)⟩, h1.2.2 hol.2 (by decide)⟩)
    | (have h1 := five_sets (v0 := .int .i64 d.sys.states) (v1 := .int .i64 d.sys.initial) (v2 := .slice alvH d.sys.labels.length clvH) (v3 := .slice aevH d.sys.edges.length cevH) (v4 := .slice awvH d.vs.length cwvH) QC3.out hS26 hS25.size; go_wp2_with fail; go_meet; case rel => exact ⟨_, d, code, _, _, _, _, _, _, rfl, rfl, h1.1, h1.2.1, hisx, ⟨h1.2.2 hol.1.1 (by decide), h1.2.2 hol.1.2 (by decide)⟩, h1.2.2 hol.2 (by decide)⟩)
    | (go_wp2_with fail; go_meet; case rel => exact ⟨_, d, code, _, _, _, _, _, _, rfl, rfl, hS26.alloc hS26.size _, Blk.new w26 [.int .i64 d.sys.states, .int .i64 d.sys.initial, .slice alvH d.sys.labels.length clvH, .slice aevH d.sys.edges.length cevH, .slice awvH d.vs.length cwvH] 32, hisx, hol.below (boxNew _ _ _)⟩))
 obtain ⟨kH, dh, codeh, alvH, aevH, awvH, clvH, cevH, cwvH, rfl, rfl, hall26, hXH, hisH, hoH0⟩ := hcut
 obtain ⟨w27, rfl⟩ : ∃ w27 : World, w27 = wc := ⟨_, rfl⟩
 obtain ⟨hq0, hq1⟩ := HIS.out.unique hisH
 subst hq0 hq1
 have HOH0 := Lib.hid hoH0
 have D27 := Lib.hid (D23.out.trans (hall26.mono D23.out.size))
 have E27 := Lib.hid (E23.out.trans (hall26.mono E23.out.size))
 have Y27 := Lib.hid (Y23.out.trans (hall26.mono Y23.out.size))
 have G27 := Lib.hid (G23.out.trans (hall26.mono G23.out.size))
 have Q27 := Lib.hid (Q23.out.trans (hall26.mono Q23.out.size))
 have XH := Lib.hid hXH
 clear hisH hoH0 hXH hall26 G0 G1 HGW hDd HDZ HSd HSZ HZ3 hDs
 obtain ⟨u0, u1, u2, u3, u4⟩ := blk5 (XH.out.below (Below.refl w27.heap.size w27))
 obtain ⟨v0, v1, v2, v3, v4⟩ := blk5 (XS.out.below Y27.out)
 have hltu := (XH.out.below (Below.refl w27.heap.size w27)).lt
 have hltv := (XS.out.below Y27.out).lt
 go_wp2_with fail
 refine (eqMonitor_same _ _ d _ _ _ _ _ _ _ ((HOH0.out.below (Below.refl w27.heap.size w27)).at) ((HOS0.out.below E27.out).at)).mono ?_
 rintro e w28 ⟨rfl, hb28⟩
 have D28 := Lib.hid (D27.out.trans (hb28.mono D27.out.size))
 have E28 := Lib.hid (E27.out.trans (hb28.mono E27.out.size))
 have Y28 := Lib.hid (Y27.out.trans (hb28.mono Y27.out.size))
 have G28 := Lib.hid (G27.out.trans (hb28.mono G27.out.size))
 have Q28 := Lib.hid (Q27.out.trans (hb28.mono Q27.out.size))
 have H28 := Lib.hid hb28
 have V28 := Lib.hid hb28
 clear hb28 u0 u1 u2 u3 u4 v0 v1 v2 v3 v4 hltu hltv
 obtain ⟨u0, u1, u2, u3, u4⟩ := blk5 (XG.out.below Q28.out)
 have hltu := (XG.out.below Q28.out).lt
 have HHE := Lib.hid (heldMonitor_is w11.heap.size _ _ _ d d.sys.states d.sys.initial 1 _ (by decide) (by have := HZZ0.out; have := hZz0; omega) (HOG0.out.below G28.out))
 rw [← HZZ0.out] at HHE
 go_wp2_with fail
 refine Calls.mono HHE.out ?_
 rintro e w29 ⟨rfl, hb29⟩
 have D29 := Lib.hid (D28.out.trans (hb29.mono D28.out.size))
 have E29 := Lib.hid (E28.out.trans (hb29.mono E28.out.size))
 have Y29 := Lib.hid (Y28.out.trans (hb29.mono Y28.out.size))
 have G29 := Lib.hid (G28.out.trans (hb29.mono G28.out.size))
 have Q29 := Lib.hid (Q28.out.trans (hb29.mono Q28.out.size))
 have H29 := Lib.hid (H28.out.trans (hb29.mono H28.out.size))
 have V29 := Lib.hid (V28.out.trans (hb29.mono V28.out.size))
 clear hb29 HHE
 clear u0 u1 u2 u3 u4 hltu
 go_wp2_with fail
 go_ret
 exact ⟨rfl, HB1.out.trans (D29.out.mono HB1.out.size)⟩

end Go.Proofs.YtmhpfmanagbggaaGreatDoor
