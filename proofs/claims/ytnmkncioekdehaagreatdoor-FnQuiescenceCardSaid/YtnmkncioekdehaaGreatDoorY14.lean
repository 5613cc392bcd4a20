/-
  The reference's drawer of a pair of systems.
-/
import Derived.Test.YtnmkncioekdehaaGreatDoorY13
namespace Go.Proofs.YtnmkncioekdehaaGreatDoor
open Go Go.RowKit


set_option maxRecDepth 100000 in
set_option maxHeartbeats 4000000 in
theorem drawPair_any (sb n : Nat) (w : World) (hs : Src sb n w) (hn : n ≤ 800000000) :
  Calls Tryz.prog 14 #[.pointer (some ⟨sb, 0, none⟩)] w (RetPair sb (n + 5000) w) := by
 have hsb := hs.lt
 obtain ⟨ra, hra⟩ : ∃ ra, ra = w.heap.size := ⟨_, rfl⟩
 obtain ⟨rc, hrc⟩ : ∃ rc, rc = w.heap.size + 1 := ⟨_, rfl⟩
 obtain ⟨W, hW⟩ : ∃ W, W = (w.alloc (.cells #[.int .i64 0, .int .i64 0, .slice none 0 0, .slice none 0 0] 27)).alloc (.cells #[.int .i64 0, .int .i64 0, .slice none 0 0, .slice none 0 0] 27) := ⟨_, rfl⟩
 have hb : Below w.heap.size w W := by rw [hW]; exact ((Below.refl _ _).alloc (Nat.le_refl _) _).alloc (by simp) _
 have hR : Blk W ra [.int .i64 0, .int .i64 0, .slice none 0 0, .slice none 0 0] 27 := by rw [hW, hra]; exact (Blk.new w _ _).alloc _
 have hC : Blk W rc [.int .i64 0, .int .i64 0, .slice none 0 0, .slice none 0 0] 27 := by
  have := Blk.new (w.alloc (.cells #[.int .i64 0, .int .i64 0, .slice none 0 0, .slice none 0 0] 27)) [.int .i64 0, .int .i64 0, .slice none 0 0, .slice none 0 0] 27
  rw [World.size_alloc, ← hrc] at this
  rw [hW]
  exact this
 have HD0 := Lib.hid ((Drew.refl hs).below hb)
 have HDA := Lib.hid (drawL_any sb n W HD0.out.2 (by omega))
 have HR := Lib.hid hR
 have HC := Lib.hid hC
 have HW := Lib.hid hW
 have HRA := Lib.hid hra
 have HRC := Lib.hid hrc
 have hsW : w.heap.size ≤ W.heap.size := hb.size
 have hral : w.heap.size ≤ ra := by omega
 have hrcl : w.heap.size ≤ rc := by omega
 have hnrc : ra ≠ rc := by omega
 clear hs hW hb hR hC hra hrc
 go_enter Tryz.func14, Tryz.ntmps14
 go_wp2_with fail
 rw [← HW.out]
 rw [← HRC.out]
 rw [← HRA.out]
 refine Calls.mono HDA.out ?_
 rintro e w1 ⟨a, la, ea, rfl, hd1, hown, hlo⟩
 obtain ⟨lp, lc, rfl, -, -⟩ := owns_slice hown.1
 obtain ⟨ep, ec, rfl, -, -⟩ := owns_slice hown.2
 obtain ⟨ab, hab⟩ : ∃ ab, ab = w1.heap.size := ⟨_, rfl⟩
 obtain ⟨W2, hW2⟩ : ∃ W2, W2 = w1.alloc (.cells #[.int .i64 a.states, .int .i64 a.initial, .slice lp a.labels.length lc, .slice ep a.edges.length ec] 27) := ⟨_, rfl⟩
 have hb2 : Below w1.heap.size w1 W2 := by rw [hW2]; exact (Below.refl _ _).alloc (Nat.le_refl _) _
 have hs1 : W.heap.size ≤ w1.heap.size := hd1.size
 have HP2 : Hid (PEnv sb (n + 2020) ra rc ab a (.slice lp a.labels.length lc) (.slice ep a.edges.length ec) w W2) := by
  have hrl := HR.out.lt
  have hcl := HC.out.lt
  refine ⟨(HD0.out.trans hd1).below hb2, hsb, (hown.lower hsW).below hb2, ?_, (hd1.blk HR.out (by omega)).below hb2, (hd1.blk HC.out (by omega)).below hb2, by omega, hral, hrcl, by omega, by omega, hnrc⟩
  rw [hW2, hab]
  exact Blk.new _ _ _
 have HLO := Lib.hid hlo
 have hshort : Short a.labels := fun i hi => by have := hlo.short _ (List.getElem_mem hi); omega
 have HP := Lib.hid (show LtsPtr w.heap.size W2 ab a from ⟨_, _, HP2.out.abox.lt, HP2.out.abox.cell 0 rfl, HP2.out.abox.cell 1 rfl, HP2.out.abox.cell 2 rfl, HP2.out.abox.cell 3 rfl, SliceK.of_owns (enc := encS) (e := 9) encS_len rfl (by rw [flat_encS]; exact HP2.out.own.1), SliceK.of_owns (e := 47) encE_len rfl HP2.out.own.2⟩)
 have HIS := Lib.hid (l11Is_any ab w.heap.size a W2 hshort HP.out)
 have HW2 := Lib.hid hW2
 have HAB := Lib.hid hab
 clear hd1 hown hlo hb2 hW2 hab HDA HD0 HR HC
 by_cases hv : Valid a
 ·have HV := Lib.hid hv
  have HIY := Lib.hid (Decides.yes HIS.out hv)
  clear hv HIS
  go_wp2_with fail
  rw [← HW2.out]
  try rw [← HAB.out]
  refine Calls.mono HIY.out ?_
  rintro e w3 ⟨rfl, hb3⟩
  have HP3 := Lib.hid (HP2.out.below hb3)
  have HON := Lib.hid (one_any sb (n + 2020) 5 w3 HP3.out.drew.2 (by omega) (by decide))
  clear hb3 HIY HP2 HP
  go_wp2_with fail
  refine Calls.mono HON.out ?_
  rintro e w4 ⟨b, rfl, hd4⟩
  have HP4 := Lib.hid (HP3.out.then hd4)
  clear hd4 HON HP3
  cases b
  ·have HOW := Lib.hid (l11Own_any ab w.heap.size a w4 (by have := HLO.out.few; omega) (by have := HLO.out.most; omega) ⟨_, _, HP4.out.abox.lt, HP4.out.abox.cell 0 rfl, HP4.out.abox.cell 1 rfl, HP4.out.abox.cell 2 rfl, HP4.out.abox.cell 3 rfl, SliceK.of_owns (enc := encS) (e := 9) encS_len rfl (by rw [flat_encS]; exact HP4.out.own.1), SliceK.of_owns (e := 47) encE_len rfl HP4.out.own.2⟩)
   go_wp2_with fail
   refine Calls.mono HOW.out ?_
   rintro e w5 ⟨lb, eb, rfl, hb5, hown5⟩
   obtain ⟨lq, ld, rfl, -, -⟩ := owns_slice hown5.1
   obtain ⟨eq, ed, rfl, -, -⟩ := owns_slice hown5.2
   obtain ⟨bb, hbb⟩ : ∃ bb, bb = w5.heap.size := ⟨_, rfl⟩
   obtain ⟨W5, hW5⟩ : ∃ W5, W5 = w5.alloc (.cells #[.int .i64 a.states, .int .i64 a.initial, .slice lq a.labels.length ld, .slice eq a.edges.length ed] 27) := ⟨_, rfl⟩
   have hb6 : Below w5.heap.size w5 W5 := by rw [hW5]; exact (Below.refl _ _).alloc (Nat.le_refl _) _
   obtain ⟨Be, hBe⟩ : ∃ Be, Be = w4.heap.size := ⟨_, rfl⟩
   have HQ5 : Hid (QEnv sb (n + 2022) ra rc ab bb Be a (.slice lp a.labels.length lc) (.slice ep a.edges.length ec) a.edges (.slice lq a.labels.length ld) (.slice eq a.edges.length ed) w W5) := by
    refine ⟨(HP4.out.below hb5).below hb6, by rw [hBe]; exact HP4.out.drew.size, fun k e => by rw [hBe]; exact (HP4.out.own.1.lt k e).2, fun k e => by rw [hBe]; exact (HP4.out.own.2.lt k e).2, by rw [hBe]; exact HP4.out.abox.lt, by rw [hBe]; exact HP4.out.rbox.lt, by rw [hBe]; exact HP4.out.cbox.lt, by rw [hBe]; exact hown5.below hb6, ?_, by rw [hbb, hBe]; exact hb5.size⟩
    rw [hW5, hbb]
    exact Blk.new _ _ _
   have HRE : Hid (RiseE a.edges) := riseE_validD HV.out
   have HMO : Hid (a.edges.length ≤ 200) := HLO.out.most
   have HFE : Hid (a.labels.length ≤ 10) := HLO.out.few
   have HST : Hid (1 ≤ a.states ∧ a.states ≤ 40) := ⟨HV.out.st0, HV.out.st1⟩
   have HON := Lib.hid (one_any sb (n + 2022) 2 W5 HQ5.out.p.drew.2 (by omega) (by decide))
   have HW5 := Lib.hid hW5
   have HBB := Lib.hid hbb
   clear hb5 hown5 hb6 hW5 hbb hBe HOW HP4
   go_wp2_with fail
   rw [← HW5.out]
   try rw [← HBB.out]
   refine Calls.mono HON.out ?_
   rintro e w6 ⟨b1, rfl, hd6⟩
   have HQ6 := Lib.hid (HQ5.out.then hd6)
   clear hd6 HON HQ5
   cases b1
   ·have HQ8 : Hid (QEnv sb (n + 2030) ra rc ab bb Be a (.slice lp a.labels.length lc) (.slice ep a.edges.length ec) a.edges (.slice lq a.labels.length ld) (.slice eq a.edges.length ed) w w6) := HQ6.out.mono (by omega)
    have HRE2 : Hid (RiseE a.edges) := HRE.out
    have HMO2 : Hid (a.edges.length ≤ 200) := HMO.out
    clear HQ6
    have HON2 := Lib.hid (one_any sb (n + 2030) 2 _ HQ8.out.p.drew.2 (by omega) (by decide))
    go_wp2_with fail
    refine Calls.mono HON2.out ?_
    rintro e w9 ⟨b2, rfl, hd9⟩
    have HQ9 := Lib.hid (HQ8.out.then hd9)
    clear hd9 HON2 HQ8
    cases b2
    ·have HQD := Lib.hid (HQ9.out.below ((Below.refl _ _).drew))
     have hn1 : ab ≠ ra := HQD.out.p.nar
     have hn2 : ab ≠ rc := HQD.out.p.nac
     have hn3 : bb ≠ ra := by have h1 := HQD.out.rae; have h2 := HQD.out.bbl; omega
     have hn4 : bb ≠ rc := by have h1 := HQD.out.rce; have h2 := HQD.out.bbl; omega
     go_upto_region 11 with fail
     have o0 := HQ9.out.p.abox.cell 0 rfl
     have o1 := HQ9.out.p.abox.cell 1 rfl
     have o2 := HQ9.out.p.abox.cell 2 rfl
     have o3 := HQ9.out.p.abox.cell 3 rfl
     have y0 := HQ9.out.bbox.cell 0 rfl
     have y1 := HQ9.out.bbox.cell 1 rfl
     have y2 := HQ9.out.bbox.cell 2 rfl
     have y3 := HQ9.out.bbox.cell 3 rfl
     have r0 := HQ9.out.p.rbox.cell 0 rfl
     have r1 := HQ9.out.p.rbox.cell 1 rfl
     have r2 := HQ9.out.p.rbox.cell 2 rfl
     have r3 := HQ9.out.p.rbox.cell 3 rfl
     have s0 := HQ9.out.p.rbox.frozen 0
     have s1 := HQ9.out.p.rbox.frozen 1
     have s2 := HQ9.out.p.rbox.frozen 2
     have s3 := HQ9.out.p.rbox.frozen 3
     have c0 := HQ9.out.p.cbox.cell 0 rfl
     have c1 := HQ9.out.p.cbox.cell 1 rfl
     have c2 := HQ9.out.p.cbox.cell 2 rfl
     have c3 := HQ9.out.p.cbox.cell 3 rfl
     have d0 := HQ9.out.p.cbox.frozen 0
     have d1 := HQ9.out.p.cbox.frozen 1
     have d2 := HQ9.out.p.cbox.frozen 2
     have d3 := HQ9.out.p.cbox.frozen 3
     have oo0 := HQD.out.p.abox.cell 0 rfl
     have oo1 := HQD.out.p.abox.cell 1 rfl
     have oo2 := HQD.out.p.abox.cell 2 rfl
     have oo3 := HQD.out.p.abox.cell 3 rfl
     have yy0 := HQD.out.bbox.cell 0 rfl
     have yy1 := HQD.out.bbox.cell 1 rfl
     have yy2 := HQD.out.bbox.cell 2 rfl
     have yy3 := HQD.out.bbox.cell 3 rfl
     have rr0 := HQD.out.p.rbox.cell 0 rfl
     have rr1 := HQD.out.p.rbox.cell 1 rfl
     have rr2 := HQD.out.p.rbox.cell 2 rfl
     have rr3 := HQD.out.p.rbox.cell 3 rfl
     have ss0 := HQD.out.p.rbox.frozen 0
     have ss1 := HQD.out.p.rbox.frozen 1
     have ss2 := HQD.out.p.rbox.frozen 2
     have ss3 := HQD.out.p.rbox.frozen 3
     have cc0 := HQD.out.p.cbox.cell 0 rfl
     have cc1 := HQD.out.p.cbox.cell 1 rfl
     have cc2 := HQD.out.p.cbox.cell 2 rfl
     have cc3 := HQD.out.p.cbox.cell 3 rfl
     have dd0 := HQD.out.p.cbox.frozen 0
     have dd1 := HQD.out.p.cbox.frozen 1
     have dd2 := HQD.out.p.cbox.frozen 2
     have dd3 := HQD.out.p.cbox.frozen 3
     go_region
     all_goals (
      go_wp2
      refine bodyPost_ret (pair_results rfl rfl (blk_drewD (blk_put4D (put4D HQ9.out.p.rbox) hnrc)) (blk_drewD (put4D (blk_put4D HQ9.out.p.cbox (fun e => hnrc e.symm))))) rfl ?_
      exact ((HQ9.out.p.mono (by omega)).fin (b := ⟨a.states, a.initial, a.labels, a.edges⟩) ⟨own_lower HQ9.out.own.1 HQ9.out.bel, own_lower HQ9.out.own.2 HQ9.out.bel⟩ HLO.out.short HLO.out.short).drew)
    ·have HQD := Lib.hid (HQ9.out.below ((Below.refl _ _).drew))
     have hst := HST.out
     have hfe := HFE.out
     have HPA : Hid (∀ m w', m ≤ 900000000 → Src sb m w' → Calls Tryz.prog 29 #[.pointer (some ⟨sb, 0, none⟩), .int .i64 a.states] w' fun e w'' => ∃ x : Int, e = .returned (.int .i64 x) ∧ 0 ≤ x ∧ (a.states ≤ 1 → x = 0) ∧ (1 ≤ a.states → x < a.states) ∧ Drew sb (m + 2) w' w'') := fun m w' hm hs' => pick_any sb m a.states w' hs' (by omega) (by omega)
     have HPB : Hid (∀ m w', m ≤ 900000000 → Src sb m w' → Calls Tryz.prog 29 #[.pointer (some ⟨sb, 0, none⟩), .int .i64 a.labels.length] w' fun e w'' => ∃ x : Int, e = .returned (.int .i64 x) ∧ 0 ≤ x ∧ ((a.labels.length : Int) ≤ 1 → x = 0) ∧ (1 ≤ (a.labels.length : Int) → x < a.labels.length) ∧ Drew sb (m + 2) w' w'') := fun m w' hm hs' => pick_any sb m a.labels.length w' hs' (by omega) (by omega)
     go_upto_region 9 with fail
     have o0 := HQ9.out.bbox.cell 0 rfl
     have o2 := HQ9.out.bbox.cell 2 rfl
     have hbl0 : bb < w9.heap.size := HQ9.out.bbox.lt
     have hcur := HQD.out
     have hcu2 := HQ9.out
     go_cut [7] from 46 (fun v7 wx => ∃ (pb : Nat) (x y z : Int), v7 = .pointer (some ⟨pb, 0, none⟩) ∧ QEnv sb (n + 2038) ra rc ab bb Be a (.slice lp a.labels.length lc) (.slice ep a.edges.length ec) a.edges (.slice lq a.labels.length ld) (.slice eq a.edges.length ed) w wx ∧ Blk wx pb [.int .i64 x, .int .i64 y, .int .i64 z] 47)
     case first =>
      go_region_held3 (fun w' => w'.cell? ⟨bb, 0, none⟩ = some (.int .i64 a.states) ∧ w'.cell? ⟨bb, 2, none⟩ = some (.slice lq a.labels.length ld))
       (first
        | with_reducible exact hcur.two
        | with_reducible exact (hcur.below (alB _ _)).two
        | with_reducible exact (hcu2.below (alD _ _)).two
        | with_reducible exact hcur.two3 hnz _ _ _
        | go_keep)
       (first
        | (go_at_call 29; (with_reducible refine Calls.mono (HPA.out (n + 2032) _ ?_ ?_) ?_); (next => omega); (next => first | with_reducible exact hcur.src | with_reducible exact (hcu2.below (alD _ _)).src); rintro e wp1 ⟨x, rfl, hxa, -, hxb, hdp⟩; (try (have hz := (by with_reducible exact hdp.newd hcu2.src : Blk wp1 w9.heap.size [.int .i64 0, .int .i64 0, .int .i64 0] 47); have hzf := hcu2.fresh)); have hcur : QEnv sb (n + 2034) ra rc ab bb Be a (.slice lp a.labels.length lc) (.slice ep a.edges.length ec) a.edges (.slice lq a.labels.length ld) (.slice eq a.edges.length ed) w wp1 := (by first | with_reducible exact hcur.then hdp | with_reducible exact (hcu2.below (alD _ _)).then hdp); clear hcu2)
        | (go_at_call 29; (with_reducible refine Calls.mono (HPB.out (n + 2034) _ ?_ ?_) ?_); (next => omega); (next => first | with_reducible exact hcur.src | with_reducible exact (hcur.below (alB _ _)).src); rintro e wp2 ⟨y, rfl, hya, -, hyb, hdp⟩; (try (have hz := (by with_reducible exact hdp.newz hcur.src : Blk wp2 _ [.int .i64 0, .int .i64 0, .int .i64 0] 47); have hzf := hcur.fresh)); (try (have hz := (by with_reducible exact hdp.blkE hz hcur.src : Blk wp2 _ [.int .i64 0, .int .i64 0, .int .i64 0] 47))); (try (skip)); have hcur : QEnv sb (n + 2036) ra rc ab bb Be a (.slice lp a.labels.length lc) (.slice ep a.edges.length ec) a.edges (.slice lq a.labels.length ld) (.slice eq a.edges.length ed) w wp2 := (by first | with_reducible exact hcur.then hdp | with_reducible exact (hcur.below (alB _ _)).then hdp))
        | (go_at_call 29; (with_reducible refine Calls.mono (HPA.out (n + 2036) _ ?_ ?_) ?_); (next => omega); (next => first | with_reducible exact hcur.src | with_reducible exact (hcur.below (alB _ _)).src); rintro e wp3 ⟨z, rfl, hza, -, hzb, hdp⟩; (try (have hz := (by with_reducible exact hdp.newz hcur.src : Blk wp3 _ [.int .i64 0, .int .i64 0, .int .i64 0] 47); have hzf := hcur.fresh)); (try (have hz := (by with_reducible exact hdp.blkE hz hcur.src : Blk wp3 _ [.int .i64 0, .int .i64 0, .int .i64 0] 47))); (try (skip; have z0 := hz.cell 0 rfl; have z1 := hz.cell 1 rfl; have z2 := hz.cell 2 rfl; have g0 := hz.frozen 0; have g1 := hz.frozen 1; have g2 := hz.frozen 2)); have hcur : QEnv sb (n + 2038) ra rc ab bb Be a (.slice lp a.labels.length lc) (.slice ep a.edges.length ec) a.edges (.slice lq a.labels.length ld) (.slice eq a.edges.length ed) w wp3 := (by first | with_reducible exact hcur.then hdp | with_reducible exact (hcur.below (alB _ _)).then hdp); have hbl3 := hcur.bbox.lt; (try (have hnz := blk_blk_neQ hcur.bbox hz (by decide))))
        | fail)
      all_goals (
       go_wp2_with fail
       go_meet
       first
        | with_reducible exact ⟨_, x, y, z, rfl, (hcur.put3 hz hzf _ _ _).1, (hcur.put3 hz hzf _ _ _).2⟩
        | with_reducible exact ⟨_, x, y, z, rfl, hcur.below (alB _ _), Blk.new _ _ _⟩)
     case rest =>
      clear HPA HPB HQD HQ9 hcur hcu2 o0 o2 hbl0
      obtain ⟨pb, x, y, z, rfl, hq, hzb⟩ := hcut
      have HQA := Lib.hid hq
      have HZB := Lib.hid hzb
      have hBeW : Be ≤ wc.heap.size := hq.fresh.2
      have HPT := Lib.hid (l11Put_any Be (.slice eq a.edges.length ed) a.edges ⟨x, y, z⟩ wc hq.own.2 HRE2.out hBeW (by have := HMO2.out; omega))
      have o3 := hq.bbox.cell 3 rfl
      have z0 := hzb.cell 0 rfl
      have z1 := hzb.cell 1 rfl
      have z2 := hzb.cell 2 rfl
      clear hq hzb
      go_wp2_with fail
      refine Calls.mono HPT.out ?_
      rintro e wd ⟨v', R, rfl, hg, ho, hput⟩
      obtain ⟨vq, vd, rfl, -, -⟩ := owns_slice ho
      have HQB := Lib.hid (HQA.out.turned hg ho)
      have HTN := Lib.hid (HQA.out.turn hg)
      have c3 := HTN.out.2.2.cell 3 rfl
      have f3 := HTN.out.2.2.frozen 3
      obtain ⟨W9, hW9⟩ : ∃ W9, W9 = wd.setCell ⟨bb, 3, none⟩ (.slice vq R.length vd) := ⟨_, rfl⟩
      rw [← hW9] at HQB
      have HW9 := Lib.hid hW9
      clear hW9 hg ho hput HQA HZB HPT HTN o3 z0 z1 z2
      have HQD := Lib.hid (HQB.out.below ((Below.refl _ _).drew))
      have hn1 : ab ≠ ra := HQD.out.p.nar
      have hn2 : ab ≠ rc := HQD.out.p.nac
      have hn3 : bb ≠ ra := by have h1 := HQD.out.rae; have h2 := HQD.out.bbl; omega
      have hn4 : bb ≠ rc := by have h1 := HQD.out.rce; have h2 := HQD.out.bbl; omega
      go_upto_region 11 with fail
      rw [← HW9.out]
      have o0 := HQB.out.p.abox.cell 0 rfl
      have o1 := HQB.out.p.abox.cell 1 rfl
      have o2 := HQB.out.p.abox.cell 2 rfl
      have o3 := HQB.out.p.abox.cell 3 rfl
      have y0 := HQB.out.bbox.cell 0 rfl
      have y1 := HQB.out.bbox.cell 1 rfl
      have y2 := HQB.out.bbox.cell 2 rfl
      have y3 := HQB.out.bbox.cell 3 rfl
      have r0 := HQB.out.p.rbox.cell 0 rfl
      have r1 := HQB.out.p.rbox.cell 1 rfl
      have r2 := HQB.out.p.rbox.cell 2 rfl
      have r3 := HQB.out.p.rbox.cell 3 rfl
      have s0 := HQB.out.p.rbox.frozen 0
      have s1 := HQB.out.p.rbox.frozen 1
      have s2 := HQB.out.p.rbox.frozen 2
      have s3 := HQB.out.p.rbox.frozen 3
      have c0 := HQB.out.p.cbox.cell 0 rfl
      have c1 := HQB.out.p.cbox.cell 1 rfl
      have c2 := HQB.out.p.cbox.cell 2 rfl
      have c3 := HQB.out.p.cbox.cell 3 rfl
      have d0 := HQB.out.p.cbox.frozen 0
      have d1 := HQB.out.p.cbox.frozen 1
      have d2 := HQB.out.p.cbox.frozen 2
      have d3 := HQB.out.p.cbox.frozen 3
      have oo0 := HQD.out.p.abox.cell 0 rfl
      have oo1 := HQD.out.p.abox.cell 1 rfl
      have oo2 := HQD.out.p.abox.cell 2 rfl
      have oo3 := HQD.out.p.abox.cell 3 rfl
      have yy0 := HQD.out.bbox.cell 0 rfl
      have yy1 := HQD.out.bbox.cell 1 rfl
      have yy2 := HQD.out.bbox.cell 2 rfl
      have yy3 := HQD.out.bbox.cell 3 rfl
      have rr0 := HQD.out.p.rbox.cell 0 rfl
      have rr1 := HQD.out.p.rbox.cell 1 rfl
      have rr2 := HQD.out.p.rbox.cell 2 rfl
      have rr3 := HQD.out.p.rbox.cell 3 rfl
      have ss0 := HQD.out.p.rbox.frozen 0
      have ss1 := HQD.out.p.rbox.frozen 1
      have ss2 := HQD.out.p.rbox.frozen 2
      have ss3 := HQD.out.p.rbox.frozen 3
      have cc0 := HQD.out.p.cbox.cell 0 rfl
      have cc1 := HQD.out.p.cbox.cell 1 rfl
      have cc2 := HQD.out.p.cbox.cell 2 rfl
      have cc3 := HQD.out.p.cbox.cell 3 rfl
      have dd0 := HQD.out.p.cbox.frozen 0
      have dd1 := HQD.out.p.cbox.frozen 1
      have dd2 := HQD.out.p.cbox.frozen 2
      have dd3 := HQD.out.p.cbox.frozen 3
      go_region
      all_goals (
       go_wp2
       refine bodyPost_ret (pair_results rfl rfl (blk_drewD (blk_put4D (put4D HQB.out.p.rbox) hnrc)) (blk_drewD (put4D (blk_put4D HQB.out.p.cbox (fun e => hnrc e.symm))))) rfl ?_
       exact ((HQB.out.p.mono (by omega)).fin (b := ⟨a.states, a.initial, a.labels, R⟩) ⟨own_lower HQB.out.own.1 HQB.out.bel, own_lower HQB.out.own.2 HQB.out.bel⟩ HLO.out.short HLO.out.short).drew)
   ·by_cases hE : 0 < a.edges.length
    ·obtain ⟨g, c, hgc, -, -⟩ := HQ6.out.own.2.form hE
     simp only [Value.slice.injEq, true_and] at hgc
     obtain ⟨rfl, rfl⟩ := hgc
     have o3 := HQ6.out.bbox.cell 3 rfl
     have hmo := HMO.out
     have HPK := Lib.hid (pick_any sb (n + 2024) a.edges.length w6 HQ6.out.p.drew.2 (by omega) (by omega))
     go_wp2_with fail
     refine Calls.mono HPK.out ?_
     rintro e w7 ⟨k0, rfl, hk0, -, hk1, hd7⟩
     have hk2 := hk1 (by omega)
     obtain ⟨k, rfl⟩ : ∃ k : Nat, k0 = (k : Int) := ⟨k0.toNat, by omega⟩
     have hk : k < a.edges.length := by omega
     have HQ7 := Lib.hid (HQ6.out.then hd7)
     have HQD := Lib.hid (HQ7.out.below ((Below.refl _ _).drew))
     clear hd7 HPK hk1 hk0 hk2 o3 HQ6
     have hcap : a.edges.length ≤ ed := own_capD HQ7.out.own.2
     obtain ⟨i2, hi2, hy0, hy1, hy2⟩ := info_parts info_edgeD
     obtain ⟨po, hpo⟩ : ∃ po, po = (if ed = k + 1 then 0 else (k + 1) * 3) := ⟨_, rfl⟩
     have hsl := slice_fromD 25 47 3 Tryz.underlying25 (fun _ => by kernel_rfl) g a.edges.length ed k (by omega)
     rw [← hpo] at hsl
     have HTK : Hid (w7.drew.ownsRow Be 47 3 (.slice (some ⟨g, 0, none⟩) k ed) k ((a.edges.take k).flatMap encE)) := by
      unfold Hid
      rw [← flat_take3]
      exact own_takeD HQD.out.own.2 (Nat.le_of_lt hk)
     have HCL : Hid (∀ j u, ((a.edges.drop (k + 1)).flatMap encE)[j]? = some u → w7.drew.cell? ((⟨g, po, none⟩ : Addr).add j) = some u) := by
      unfold Hid
      rw [← flat_drop3]
      exact cells_fromD HQD.out.own.2 (by omega) hcap hpo
     have HLN : Hid (((a.edges.drop (k + 1)).flatMap encE).length = (a.edges.length - (k + 1)) * 3) := by
      unfold Hid
      rw [← flat_drop3, List.length_drop, HQD.out.own.2.1]
      show a.edges.length * 3 - (k + 1) * 3 = _
      omega
     have HPO := Lib.hid hpo
     have hkc : k ≤ ed := by omega
     have hwk : IntKind.i64.wrap ((k : Int) + 1) = (k : Int) + 1 := by
      simp [IntKind.wrap, IntKind.bits, IntKind.signed]
      omega
     have o3 := HQ7.out.bbox.cell 3 rfl
     clear hpo
     go_upto_region 7 with fail
     have y3 : w7.drew.cell? ⟨bb, 3, none⟩ = _ := o3
     go_region_law
      ((refine step_fitsD _ (by rfl) _ _ _ (by rfl) Be 47 i2 3 Tryz.underlying25 hi2 hy1 g k ed ((a.edges.take k).flatMap encE) (by rfl) HTK.out ⟨g, po, none⟩ (a.edges.length - (k + 1)) (ed - (k + 1)) ((a.edges.drop (k + 1)).flatMap encE) (by rfl) HLN.out HCL.out (encE_oneD _) (by omega) ?_; intro w8 hown8 hgrow8; have htn8 := HQD.out.turn hgrow8; have q3 := htn8.2.2.cell 3 rfl; have f3 := htn8.2.2.frozen 3))
     all_goals (
      obtain ⟨EN, hEN⟩ : ∃ EN, EN = k + (a.edges.length - (k + 1)) := ⟨_, rfl⟩
      have hel : EN = (a.edges.eraseIdx k).length := by rw [hEN, List.length_eraseIdx, if_pos hk]; omega
      have hfl : (a.edges.take k).flatMap encE ++ (a.edges.drop (k + 1)).flatMap encE = (a.edges.eraseIdx k).flatMap encE := by rw [← List.flatMap_append, ← List.eraseIdx_eq_take_drop_succ]
      have ho8 : w8.ownsRow Be 47 3 (.slice (some ⟨g, 0, none⟩) EN ed) (a.edges.eraseIdx k).length ((a.edges.eraseIdx k).flatMap encE) := by
       rw [← hfl, ← hel, hEN]
       exact hown8
      rw [← hEN]
      obtain ⟨W8, hW8⟩ : ∃ W8, W8 = w8.setCell ⟨bb, 3, none⟩ (.slice (some ⟨g, 0, none⟩) EN ed) := ⟨_, rfl⟩
      have HQT : Hid (QEnv sb (n + 2026) ra rc ab bb Be a (.slice lp a.labels.length lc) (.slice ep a.edges.length ec) (a.edges.eraseIdx k) (.slice lq a.labels.length ld) (.slice (some ⟨g, 0, none⟩) EN ed) w W8) := by unfold Hid; rw [hW8]; exact HQD.out.turned hgrow8 ho8
      have HW8 := Lib.hid hW8
      have HMO2 : Hid ((a.edges.eraseIdx k).length ≤ 200) := by unfold Hid; rw [← hel, hEN]; omega
      have HRE2 : Hid (RiseE (a.edges.eraseIdx k)) := rise_eraseD HRE.out k
      obtain ⟨E2, hE2⟩ : ∃ E2, E2 = a.edges.eraseIdx k := ⟨_, rfl⟩
      rw [← hE2] at HQT HMO2 HRE2
      clear hkc hwk hW8 hown8 hgrow8 htn8 q3 f3 ho8 hfl hel hEN hE2 HQ7 HQD HTK HCL HLN HPO hsl o3 y3 hi2 hy0 hy1 hy2
      have HQ8 : Hid (QEnv sb (n + 2030) ra rc ab bb Be a (.slice lp a.labels.length lc) (.slice ep a.edges.length ec) E2 (.slice lq a.labels.length ld) (.slice (some ⟨g, 0, none⟩) EN ed) w W8) := HQT.out.mono (by omega)
      clear HQT
      have HON2 := Lib.hid (one_any sb (n + 2030) 2 _ HQ8.out.p.drew.2 (by omega) (by decide))
      go_wp2_with fail
      rw [← HW8.out]
      refine Calls.mono HON2.out ?_
      rintro e w9 ⟨b2, rfl, hd9⟩
      have HQ9 := Lib.hid (HQ8.out.then hd9)
      clear hd9 HON2 HQ8
      cases b2
      ·have HQD := Lib.hid (HQ9.out.below ((Below.refl _ _).drew))
       have hn1 : ab ≠ ra := HQD.out.p.nar
       have hn2 : ab ≠ rc := HQD.out.p.nac
       have hn3 : bb ≠ ra := by have h1 := HQD.out.rae; have h2 := HQD.out.bbl; omega
       have hn4 : bb ≠ rc := by have h1 := HQD.out.rce; have h2 := HQD.out.bbl; omega
       go_upto_region 11 with fail
       have o0 := HQ9.out.p.abox.cell 0 rfl
       have o1 := HQ9.out.p.abox.cell 1 rfl
       have o2 := HQ9.out.p.abox.cell 2 rfl
       have o3 := HQ9.out.p.abox.cell 3 rfl
       have y0 := HQ9.out.bbox.cell 0 rfl
       have y1 := HQ9.out.bbox.cell 1 rfl
       have y2 := HQ9.out.bbox.cell 2 rfl
       have y3 := HQ9.out.bbox.cell 3 rfl
       have r0 := HQ9.out.p.rbox.cell 0 rfl
       have r1 := HQ9.out.p.rbox.cell 1 rfl
       have r2 := HQ9.out.p.rbox.cell 2 rfl
       have r3 := HQ9.out.p.rbox.cell 3 rfl
       have s0 := HQ9.out.p.rbox.frozen 0
       have s1 := HQ9.out.p.rbox.frozen 1
       have s2 := HQ9.out.p.rbox.frozen 2
       have s3 := HQ9.out.p.rbox.frozen 3
       have c0 := HQ9.out.p.cbox.cell 0 rfl
       have c1 := HQ9.out.p.cbox.cell 1 rfl
       have c2 := HQ9.out.p.cbox.cell 2 rfl
       have c3 := HQ9.out.p.cbox.cell 3 rfl
       have d0 := HQ9.out.p.cbox.frozen 0
       have d1 := HQ9.out.p.cbox.frozen 1
       have d2 := HQ9.out.p.cbox.frozen 2
       have d3 := HQ9.out.p.cbox.frozen 3
       have oo0 := HQD.out.p.abox.cell 0 rfl
       have oo1 := HQD.out.p.abox.cell 1 rfl
       have oo2 := HQD.out.p.abox.cell 2 rfl
       have oo3 := HQD.out.p.abox.cell 3 rfl
       have yy0 := HQD.out.bbox.cell 0 rfl
       have yy1 := HQD.out.bbox.cell 1 rfl
       have yy2 := HQD.out.bbox.cell 2 rfl
       have yy3 := HQD.out.bbox.cell 3 rfl
       have rr0 := HQD.out.p.rbox.cell 0 rfl
       have rr1 := HQD.out.p.rbox.cell 1 rfl
       have rr2 := HQD.out.p.rbox.cell 2 rfl
       have rr3 := HQD.out.p.rbox.cell 3 rfl
       have ss0 := HQD.out.p.rbox.frozen 0
       have ss1 := HQD.out.p.rbox.frozen 1
       have ss2 := HQD.out.p.rbox.frozen 2
       have ss3 := HQD.out.p.rbox.frozen 3
       have cc0 := HQD.out.p.cbox.cell 0 rfl
       have cc1 := HQD.out.p.cbox.cell 1 rfl
       have cc2 := HQD.out.p.cbox.cell 2 rfl
       have cc3 := HQD.out.p.cbox.cell 3 rfl
       have dd0 := HQD.out.p.cbox.frozen 0
       have dd1 := HQD.out.p.cbox.frozen 1
       have dd2 := HQD.out.p.cbox.frozen 2
       have dd3 := HQD.out.p.cbox.frozen 3
       go_region
       all_goals (
        go_wp2
        refine bodyPost_ret (pair_results rfl rfl (blk_drewD (blk_put4D (put4D HQ9.out.p.rbox) hnrc)) (blk_drewD (put4D (blk_put4D HQ9.out.p.cbox (fun e => hnrc e.symm))))) rfl ?_
        exact ((HQ9.out.p.mono (by omega)).fin (b := ⟨a.states, a.initial, a.labels, E2⟩) ⟨own_lower HQ9.out.own.1 HQ9.out.bel, own_lower HQ9.out.own.2 HQ9.out.bel⟩ HLO.out.short HLO.out.short).drew)
      ·have HQD := Lib.hid (HQ9.out.below ((Below.refl _ _).drew))
       have hst := HST.out
       have hfe := HFE.out
       have HPA : Hid (∀ m w', m ≤ 900000000 → Src sb m w' → Calls Tryz.prog 29 #[.pointer (some ⟨sb, 0, none⟩), .int .i64 a.states] w' fun e w'' => ∃ x : Int, e = .returned (.int .i64 x) ∧ 0 ≤ x ∧ (a.states ≤ 1 → x = 0) ∧ (1 ≤ a.states → x < a.states) ∧ Drew sb (m + 2) w' w'') := fun m w' hm hs' => pick_any sb m a.states w' hs' (by omega) (by omega)
       have HPB : Hid (∀ m w', m ≤ 900000000 → Src sb m w' → Calls Tryz.prog 29 #[.pointer (some ⟨sb, 0, none⟩), .int .i64 a.labels.length] w' fun e w'' => ∃ x : Int, e = .returned (.int .i64 x) ∧ 0 ≤ x ∧ ((a.labels.length : Int) ≤ 1 → x = 0) ∧ (1 ≤ (a.labels.length : Int) → x < a.labels.length) ∧ Drew sb (m + 2) w' w'') := fun m w' hm hs' => pick_any sb m a.labels.length w' hs' (by omega) (by omega)
       go_upto_region 9 with fail
       have o0 := HQ9.out.bbox.cell 0 rfl
       have o2 := HQ9.out.bbox.cell 2 rfl
       have hbl0 : bb < w9.heap.size := HQ9.out.bbox.lt
       have hcur := HQD.out
       have hcu2 := HQ9.out
       go_cut [7] from 46 (fun v7 wx => ∃ (pb : Nat) (x y z : Int), v7 = .pointer (some ⟨pb, 0, none⟩) ∧ QEnv sb (n + 2038) ra rc ab bb Be a (.slice lp a.labels.length lc) (.slice ep a.edges.length ec) E2 (.slice lq a.labels.length ld) (.slice (some ⟨g, 0, none⟩) EN ed) w wx ∧ Blk wx pb [.int .i64 x, .int .i64 y, .int .i64 z] 47)
       case first =>
        go_region_held3 (fun w' => w'.cell? ⟨bb, 0, none⟩ = some (.int .i64 a.states) ∧ w'.cell? ⟨bb, 2, none⟩ = some (.slice lq a.labels.length ld))
         (first
          | with_reducible exact hcur.two
          | with_reducible exact (hcur.below (alB _ _)).two
          | with_reducible exact (hcu2.below (alD _ _)).two
          | with_reducible exact hcur.two3 hnz _ _ _
          | go_keep)
         (first
          | (go_at_call 29; (with_reducible refine Calls.mono (HPA.out (n + 2032) _ ?_ ?_) ?_); (next => omega); (next => first | with_reducible exact hcur.src | with_reducible exact (hcu2.below (alD _ _)).src); rintro e wp1 ⟨x, rfl, hxa, -, hxb, hdp⟩; (try (have hz := (by with_reducible exact hdp.newd hcu2.src : Blk wp1 w9.heap.size [.int .i64 0, .int .i64 0, .int .i64 0] 47); have hzf := hcu2.fresh)); have hcur : QEnv sb (n + 2034) ra rc ab bb Be a (.slice lp a.labels.length lc) (.slice ep a.edges.length ec) E2 (.slice lq a.labels.length ld) (.slice (some ⟨g, 0, none⟩) EN ed) w wp1 := (by first | with_reducible exact hcur.then hdp | with_reducible exact (hcu2.below (alD _ _)).then hdp); clear hcu2)
          | (go_at_call 29; (with_reducible refine Calls.mono (HPB.out (n + 2034) _ ?_ ?_) ?_); (next => omega); (next => first | with_reducible exact hcur.src | with_reducible exact (hcur.below (alB _ _)).src); rintro e wp2 ⟨y, rfl, hya, -, hyb, hdp⟩; (try (have hz := (by with_reducible exact hdp.newz hcur.src : Blk wp2 _ [.int .i64 0, .int .i64 0, .int .i64 0] 47); have hzf := hcur.fresh)); (try (have hz := (by with_reducible exact hdp.blkE hz hcur.src : Blk wp2 _ [.int .i64 0, .int .i64 0, .int .i64 0] 47))); (try (skip)); have hcur : QEnv sb (n + 2036) ra rc ab bb Be a (.slice lp a.labels.length lc) (.slice ep a.edges.length ec) E2 (.slice lq a.labels.length ld) (.slice (some ⟨g, 0, none⟩) EN ed) w wp2 := (by first | with_reducible exact hcur.then hdp | with_reducible exact (hcur.below (alB _ _)).then hdp))
          | (go_at_call 29; (with_reducible refine Calls.mono (HPA.out (n + 2036) _ ?_ ?_) ?_); (next => omega); (next => first | with_reducible exact hcur.src | with_reducible exact (hcur.below (alB _ _)).src); rintro e wp3 ⟨z, rfl, hza, -, hzb, hdp⟩; (try (have hz := (by with_reducible exact hdp.newz hcur.src : Blk wp3 _ [.int .i64 0, .int .i64 0, .int .i64 0] 47); have hzf := hcur.fresh)); (try (have hz := (by with_reducible exact hdp.blkE hz hcur.src : Blk wp3 _ [.int .i64 0, .int .i64 0, .int .i64 0] 47))); (try (skip; have z0 := hz.cell 0 rfl; have z1 := hz.cell 1 rfl; have z2 := hz.cell 2 rfl; have g0 := hz.frozen 0; have g1 := hz.frozen 1; have g2 := hz.frozen 2)); have hcur : QEnv sb (n + 2038) ra rc ab bb Be a (.slice lp a.labels.length lc) (.slice ep a.edges.length ec) E2 (.slice lq a.labels.length ld) (.slice (some ⟨g, 0, none⟩) EN ed) w wp3 := (by first | with_reducible exact hcur.then hdp | with_reducible exact (hcur.below (alB _ _)).then hdp); have hbl3 := hcur.bbox.lt; (try (have hnz := blk_blk_neQ hcur.bbox hz (by decide))))
          | fail)
        all_goals (
         go_wp2_with fail
         go_meet
         first
          | with_reducible exact ⟨_, x, y, z, rfl, (hcur.put3 hz hzf _ _ _).1, (hcur.put3 hz hzf _ _ _).2⟩
          | with_reducible exact ⟨_, x, y, z, rfl, hcur.below (alB _ _), Blk.new _ _ _⟩)
       case rest =>
        clear HPA HPB HQD HQ9 hcur hcu2 o0 o2 hbl0
        obtain ⟨pb, x, y, z, rfl, hq, hzb⟩ := hcut
        have HQA := Lib.hid hq
        have HZB := Lib.hid hzb
        have hBeW : Be ≤ wc.heap.size := hq.fresh.2
        have HPT := Lib.hid (l11Put_any Be (.slice (some ⟨g, 0, none⟩) EN ed) E2 ⟨x, y, z⟩ wc hq.own.2 HRE2.out hBeW (by have := HMO2.out; omega))
        have o3 := hq.bbox.cell 3 rfl
        have z0 := hzb.cell 0 rfl
        have z1 := hzb.cell 1 rfl
        have z2 := hzb.cell 2 rfl
        clear hq hzb
        go_wp2_with fail
        refine Calls.mono HPT.out ?_
        rintro e wd ⟨v', R, rfl, hg, ho, hput⟩
        obtain ⟨vq, vd, rfl, -, -⟩ := owns_slice ho
        have HQB := Lib.hid (HQA.out.turned hg ho)
        have HTN := Lib.hid (HQA.out.turn hg)
        have c3 := HTN.out.2.2.cell 3 rfl
        have f3 := HTN.out.2.2.frozen 3
        obtain ⟨W9, hW9⟩ : ∃ W9, W9 = wd.setCell ⟨bb, 3, none⟩ (.slice vq R.length vd) := ⟨_, rfl⟩
        rw [← hW9] at HQB
        have HW9 := Lib.hid hW9
        clear hW9 hg ho hput HQA HZB HPT HTN o3 z0 z1 z2
        have HQD := Lib.hid (HQB.out.below ((Below.refl _ _).drew))
        have hn1 : ab ≠ ra := HQD.out.p.nar
        have hn2 : ab ≠ rc := HQD.out.p.nac
        have hn3 : bb ≠ ra := by have h1 := HQD.out.rae; have h2 := HQD.out.bbl; omega
        have hn4 : bb ≠ rc := by have h1 := HQD.out.rce; have h2 := HQD.out.bbl; omega
        go_upto_region 11 with fail
        rw [← HW9.out]
        have o0 := HQB.out.p.abox.cell 0 rfl
        have o1 := HQB.out.p.abox.cell 1 rfl
        have o2 := HQB.out.p.abox.cell 2 rfl
        have o3 := HQB.out.p.abox.cell 3 rfl
        have y0 := HQB.out.bbox.cell 0 rfl
        have y1 := HQB.out.bbox.cell 1 rfl
        have y2 := HQB.out.bbox.cell 2 rfl
        have y3 := HQB.out.bbox.cell 3 rfl
        have r0 := HQB.out.p.rbox.cell 0 rfl
        have r1 := HQB.out.p.rbox.cell 1 rfl
        have r2 := HQB.out.p.rbox.cell 2 rfl
        have r3 := HQB.out.p.rbox.cell 3 rfl
        have s0 := HQB.out.p.rbox.frozen 0
        have s1 := HQB.out.p.rbox.frozen 1
        have s2 := HQB.out.p.rbox.frozen 2
        have s3 := HQB.out.p.rbox.frozen 3
        have c0 := HQB.out.p.cbox.cell 0 rfl
        have c1 := HQB.out.p.cbox.cell 1 rfl
        have c2 := HQB.out.p.cbox.cell 2 rfl
        have c3 := HQB.out.p.cbox.cell 3 rfl
        have d0 := HQB.out.p.cbox.frozen 0
        have d1 := HQB.out.p.cbox.frozen 1
        have d2 := HQB.out.p.cbox.frozen 2
        have d3 := HQB.out.p.cbox.frozen 3
        have oo0 := HQD.out.p.abox.cell 0 rfl
        have oo1 := HQD.out.p.abox.cell 1 rfl
        have oo2 := HQD.out.p.abox.cell 2 rfl
        have oo3 := HQD.out.p.abox.cell 3 rfl
        have yy0 := HQD.out.bbox.cell 0 rfl
        have yy1 := HQD.out.bbox.cell 1 rfl
        have yy2 := HQD.out.bbox.cell 2 rfl
        have yy3 := HQD.out.bbox.cell 3 rfl
        have rr0 := HQD.out.p.rbox.cell 0 rfl
        have rr1 := HQD.out.p.rbox.cell 1 rfl
        have rr2 := HQD.out.p.rbox.cell 2 rfl
        have rr3 := HQD.out.p.rbox.cell 3 rfl
        have ss0 := HQD.out.p.rbox.frozen 0
        have ss1 := HQD.out.p.rbox.frozen 1
        have ss2 := HQD.out.p.rbox.frozen 2
        have ss3 := HQD.out.p.rbox.frozen 3
        have cc0 := HQD.out.p.cbox.cell 0 rfl
        have cc1 := HQD.out.p.cbox.cell 1 rfl
        have cc2 := HQD.out.p.cbox.cell 2 rfl
        have cc3 := HQD.out.p.cbox.cell 3 rfl
        have dd0 := HQD.out.p.cbox.frozen 0
        have dd1 := HQD.out.p.cbox.frozen 1
        have dd2 := HQD.out.p.cbox.frozen 2
        have dd3 := HQD.out.p.cbox.frozen 3
        go_region
        all_goals (
         go_wp2
         refine bodyPost_ret (pair_results rfl rfl (blk_drewD (blk_put4D (put4D HQB.out.p.rbox) hnrc)) (blk_drewD (put4D (blk_put4D HQB.out.p.cbox (fun e => hnrc e.symm))))) rfl ?_
         exact ((HQB.out.p.mono (by omega)).fin (b := ⟨a.states, a.initial, a.labels, R⟩) ⟨own_lower HQB.out.own.1 HQB.out.bel, own_lower HQB.out.own.2 HQB.out.bel⟩ HLO.out.short HLO.out.short).drew))
    ·have o3 := HQ6.out.bbox.cell 3 rfl
     have HQ8 : Hid (QEnv sb (n + 2030) ra rc ab bb Be a (.slice lp a.labels.length lc) (.slice ep a.edges.length ec) a.edges (.slice lq a.labels.length ld) (.slice eq a.edges.length ed) w w6) := HQ6.out.mono (by omega)
     have HRE2 : Hid (RiseE a.edges) := HRE.out
     have HMO2 : Hid (a.edges.length ≤ 200) := HMO.out
     clear HQ6
     have HON2 := Lib.hid (one_any sb (n + 2030) 2 _ HQ8.out.p.drew.2 (by omega) (by decide))
     go_wp2_with fail
     refine Calls.mono HON2.out ?_
     rintro e w9 ⟨b2, rfl, hd9⟩
     have HQ9 := Lib.hid (HQ8.out.then hd9)
     clear hd9 HON2 HQ8
     cases b2
     ·have HQD := Lib.hid (HQ9.out.below ((Below.refl _ _).drew))
      have hn1 : ab ≠ ra := HQD.out.p.nar
      have hn2 : ab ≠ rc := HQD.out.p.nac
      have hn3 : bb ≠ ra := by have h1 := HQD.out.rae; have h2 := HQD.out.bbl; omega
      have hn4 : bb ≠ rc := by have h1 := HQD.out.rce; have h2 := HQD.out.bbl; omega
      go_upto_region 11 with fail
      have o0 := HQ9.out.p.abox.cell 0 rfl
      have o1 := HQ9.out.p.abox.cell 1 rfl
      have o2 := HQ9.out.p.abox.cell 2 rfl
      have o3 := HQ9.out.p.abox.cell 3 rfl
      have y0 := HQ9.out.bbox.cell 0 rfl
      have y1 := HQ9.out.bbox.cell 1 rfl
      have y2 := HQ9.out.bbox.cell 2 rfl
      have y3 := HQ9.out.bbox.cell 3 rfl
      have r0 := HQ9.out.p.rbox.cell 0 rfl
      have r1 := HQ9.out.p.rbox.cell 1 rfl
      have r2 := HQ9.out.p.rbox.cell 2 rfl
      have r3 := HQ9.out.p.rbox.cell 3 rfl
      have s0 := HQ9.out.p.rbox.frozen 0
      have s1 := HQ9.out.p.rbox.frozen 1
      have s2 := HQ9.out.p.rbox.frozen 2
      have s3 := HQ9.out.p.rbox.frozen 3
      have c0 := HQ9.out.p.cbox.cell 0 rfl
      have c1 := HQ9.out.p.cbox.cell 1 rfl
      have c2 := HQ9.out.p.cbox.cell 2 rfl
      have c3 := HQ9.out.p.cbox.cell 3 rfl
      have d0 := HQ9.out.p.cbox.frozen 0
      have d1 := HQ9.out.p.cbox.frozen 1
      have d2 := HQ9.out.p.cbox.frozen 2
      have d3 := HQ9.out.p.cbox.frozen 3
      have oo0 := HQD.out.p.abox.cell 0 rfl
      have oo1 := HQD.out.p.abox.cell 1 rfl
      have oo2 := HQD.out.p.abox.cell 2 rfl
      have oo3 := HQD.out.p.abox.cell 3 rfl
      have yy0 := HQD.out.bbox.cell 0 rfl
      have yy1 := HQD.out.bbox.cell 1 rfl
      have yy2 := HQD.out.bbox.cell 2 rfl
      have yy3 := HQD.out.bbox.cell 3 rfl
      have rr0 := HQD.out.p.rbox.cell 0 rfl
      have rr1 := HQD.out.p.rbox.cell 1 rfl
      have rr2 := HQD.out.p.rbox.cell 2 rfl
      have rr3 := HQD.out.p.rbox.cell 3 rfl
      have ss0 := HQD.out.p.rbox.frozen 0
      have ss1 := HQD.out.p.rbox.frozen 1
      have ss2 := HQD.out.p.rbox.frozen 2
      have ss3 := HQD.out.p.rbox.frozen 3
      have cc0 := HQD.out.p.cbox.cell 0 rfl
      have cc1 := HQD.out.p.cbox.cell 1 rfl
      have cc2 := HQD.out.p.cbox.cell 2 rfl
      have cc3 := HQD.out.p.cbox.cell 3 rfl
      have dd0 := HQD.out.p.cbox.frozen 0
      have dd1 := HQD.out.p.cbox.frozen 1
      have dd2 := HQD.out.p.cbox.frozen 2
      have dd3 := HQD.out.p.cbox.frozen 3
      go_region
      all_goals (
       go_wp2
       refine bodyPost_ret (pair_results rfl rfl (blk_drewD (blk_put4D (put4D HQ9.out.p.rbox) hnrc)) (blk_drewD (put4D (blk_put4D HQ9.out.p.cbox (fun e => hnrc e.symm))))) rfl ?_
       exact ((HQ9.out.p.mono (by omega)).fin (b := ⟨a.states, a.initial, a.labels, a.edges⟩) ⟨own_lower HQ9.out.own.1 HQ9.out.bel, own_lower HQ9.out.own.2 HQ9.out.bel⟩ HLO.out.short HLO.out.short).drew)
     ·have HQD := Lib.hid (HQ9.out.below ((Below.refl _ _).drew))
      have hst := HST.out
      have hfe := HFE.out
      have HPA : Hid (∀ m w', m ≤ 900000000 → Src sb m w' → Calls Tryz.prog 29 #[.pointer (some ⟨sb, 0, none⟩), .int .i64 a.states] w' fun e w'' => ∃ x : Int, e = .returned (.int .i64 x) ∧ 0 ≤ x ∧ (a.states ≤ 1 → x = 0) ∧ (1 ≤ a.states → x < a.states) ∧ Drew sb (m + 2) w' w'') := fun m w' hm hs' => pick_any sb m a.states w' hs' (by omega) (by omega)
      have HPB : Hid (∀ m w', m ≤ 900000000 → Src sb m w' → Calls Tryz.prog 29 #[.pointer (some ⟨sb, 0, none⟩), .int .i64 a.labels.length] w' fun e w'' => ∃ x : Int, e = .returned (.int .i64 x) ∧ 0 ≤ x ∧ ((a.labels.length : Int) ≤ 1 → x = 0) ∧ (1 ≤ (a.labels.length : Int) → x < a.labels.length) ∧ Drew sb (m + 2) w' w'') := fun m w' hm hs' => pick_any sb m a.labels.length w' hs' (by omega) (by omega)
      go_upto_region 9 with fail
      have o0 := HQ9.out.bbox.cell 0 rfl
      have o2 := HQ9.out.bbox.cell 2 rfl
      have hbl0 : bb < w9.heap.size := HQ9.out.bbox.lt
      have hcur := HQD.out
      have hcu2 := HQ9.out
      go_cut [7] from 46 (fun v7 wx => ∃ (pb : Nat) (x y z : Int), v7 = .pointer (some ⟨pb, 0, none⟩) ∧ QEnv sb (n + 2038) ra rc ab bb Be a (.slice lp a.labels.length lc) (.slice ep a.edges.length ec) a.edges (.slice lq a.labels.length ld) (.slice eq a.edges.length ed) w wx ∧ Blk wx pb [.int .i64 x, .int .i64 y, .int .i64 z] 47)
      case first =>
       go_region_held3 (fun w' => w'.cell? ⟨bb, 0, none⟩ = some (.int .i64 a.states) ∧ w'.cell? ⟨bb, 2, none⟩ = some (.slice lq a.labels.length ld))
        (first
         | with_reducible exact hcur.two
         | with_reducible exact (hcur.below (alB _ _)).two
         | with_reducible exact (hcu2.below (alD _ _)).two
         | with_reducible exact hcur.two3 hnz _ _ _
         | go_keep)
        (first
         | (go_at_call 29; (with_reducible refine Calls.mono (HPA.out (n + 2032) _ ?_ ?_) ?_); (next => omega); (next => first | with_reducible exact hcur.src | with_reducible exact (hcu2.below (alD _ _)).src); rintro e wp1 ⟨x, rfl, hxa, -, hxb, hdp⟩; (try (have hz := (by with_reducible exact hdp.newd hcu2.src : Blk wp1 w9.heap.size [.int .i64 0, .int .i64 0, .int .i64 0] 47); have hzf := hcu2.fresh)); have hcur : QEnv sb (n + 2034) ra rc ab bb Be a (.slice lp a.labels.length lc) (.slice ep a.edges.length ec) a.edges (.slice lq a.labels.length ld) (.slice eq a.edges.length ed) w wp1 := (by first | with_reducible exact hcur.then hdp | with_reducible exact (hcu2.below (alD _ _)).then hdp); clear hcu2)
         | (go_at_call 29; (with_reducible refine Calls.mono (HPB.out (n + 2034) _ ?_ ?_) ?_); (next => omega); (next => first | with_reducible exact hcur.src | with_reducible exact (hcur.below (alB _ _)).src); rintro e wp2 ⟨y, rfl, hya, -, hyb, hdp⟩; (try (have hz := (by with_reducible exact hdp.newz hcur.src : Blk wp2 _ [.int .i64 0, .int .i64 0, .int .i64 0] 47); have hzf := hcur.fresh)); (try (have hz := (by with_reducible exact hdp.blkE hz hcur.src : Blk wp2 _ [.int .i64 0, .int .i64 0, .int .i64 0] 47))); (try (skip)); have hcur : QEnv sb (n + 2036) ra rc ab bb Be a (.slice lp a.labels.length lc) (.slice ep a.edges.length ec) a.edges (.slice lq a.labels.length ld) (.slice eq a.edges.length ed) w wp2 := (by first | with_reducible exact hcur.then hdp | with_reducible exact (hcur.below (alB _ _)).then hdp))
         | (go_at_call 29; (with_reducible refine Calls.mono (HPA.out (n + 2036) _ ?_ ?_) ?_); (next => omega); (next => first | with_reducible exact hcur.src | with_reducible exact (hcur.below (alB _ _)).src); rintro e wp3 ⟨z, rfl, hza, -, hzb, hdp⟩; (try (have hz := (by with_reducible exact hdp.newz hcur.src : Blk wp3 _ [.int .i64 0, .int .i64 0, .int .i64 0] 47); have hzf := hcur.fresh)); (try (have hz := (by with_reducible exact hdp.blkE hz hcur.src : Blk wp3 _ [.int .i64 0, .int .i64 0, .int .i64 0] 47))); (try (skip; have z0 := hz.cell 0 rfl; have z1 := hz.cell 1 rfl; have z2 := hz.cell 2 rfl; have g0 := hz.frozen 0; have g1 := hz.frozen 1; have g2 := hz.frozen 2)); have hcur : QEnv sb (n + 2038) ra rc ab bb Be a (.slice lp a.labels.length lc) (.slice ep a.edges.length ec) a.edges (.slice lq a.labels.length ld) (.slice eq a.edges.length ed) w wp3 := (by first | with_reducible exact hcur.then hdp | with_reducible exact (hcur.below (alB _ _)).then hdp); have hbl3 := hcur.bbox.lt; (try (have hnz := blk_blk_neQ hcur.bbox hz (by decide))))
         | fail)
       all_goals (
        go_wp2_with fail
        go_meet
        first
         | with_reducible exact ⟨_, x, y, z, rfl, (hcur.put3 hz hzf _ _ _).1, (hcur.put3 hz hzf _ _ _).2⟩
         | with_reducible exact ⟨_, x, y, z, rfl, hcur.below (alB _ _), Blk.new _ _ _⟩)
      case rest =>
       clear HPA HPB HQD HQ9 hcur hcu2 o0 o2 hbl0
       obtain ⟨pb, x, y, z, rfl, hq, hzb⟩ := hcut
       have HQA := Lib.hid hq
       have HZB := Lib.hid hzb
       have hBeW : Be ≤ wc.heap.size := hq.fresh.2
       have HPT := Lib.hid (l11Put_any Be (.slice eq a.edges.length ed) a.edges ⟨x, y, z⟩ wc hq.own.2 HRE2.out hBeW (by have := HMO2.out; omega))
       have o3 := hq.bbox.cell 3 rfl
       have z0 := hzb.cell 0 rfl
       have z1 := hzb.cell 1 rfl
       have z2 := hzb.cell 2 rfl
       clear hq hzb
       go_wp2_with fail
       refine Calls.mono HPT.out ?_
       rintro e wd ⟨v', R, rfl, hg, ho, hput⟩
       obtain ⟨vq, vd, rfl, -, -⟩ := owns_slice ho
       have HQB := Lib.hid (HQA.out.turned hg ho)
       have HTN := Lib.hid (HQA.out.turn hg)
       have c3 := HTN.out.2.2.cell 3 rfl
       have f3 := HTN.out.2.2.frozen 3
       obtain ⟨W9, hW9⟩ : ∃ W9, W9 = wd.setCell ⟨bb, 3, none⟩ (.slice vq R.length vd) := ⟨_, rfl⟩
       rw [← hW9] at HQB
       have HW9 := Lib.hid hW9
       clear hW9 hg ho hput HQA HZB HPT HTN o3 z0 z1 z2
       have HQD := Lib.hid (HQB.out.below ((Below.refl _ _).drew))
       have hn1 : ab ≠ ra := HQD.out.p.nar
       have hn2 : ab ≠ rc := HQD.out.p.nac
       have hn3 : bb ≠ ra := by have h1 := HQD.out.rae; have h2 := HQD.out.bbl; omega
       have hn4 : bb ≠ rc := by have h1 := HQD.out.rce; have h2 := HQD.out.bbl; omega
       go_upto_region 11 with fail
       rw [← HW9.out]
       have o0 := HQB.out.p.abox.cell 0 rfl
       have o1 := HQB.out.p.abox.cell 1 rfl
       have o2 := HQB.out.p.abox.cell 2 rfl
       have o3 := HQB.out.p.abox.cell 3 rfl
       have y0 := HQB.out.bbox.cell 0 rfl
       have y1 := HQB.out.bbox.cell 1 rfl
       have y2 := HQB.out.bbox.cell 2 rfl
       have y3 := HQB.out.bbox.cell 3 rfl
       have r0 := HQB.out.p.rbox.cell 0 rfl
       have r1 := HQB.out.p.rbox.cell 1 rfl
       have r2 := HQB.out.p.rbox.cell 2 rfl
       have r3 := HQB.out.p.rbox.cell 3 rfl
       have s0 := HQB.out.p.rbox.frozen 0
       have s1 := HQB.out.p.rbox.frozen 1
       have s2 := HQB.out.p.rbox.frozen 2
       have s3 := HQB.out.p.rbox.frozen 3
       have c0 := HQB.out.p.cbox.cell 0 rfl
       have c1 := HQB.out.p.cbox.cell 1 rfl
       have c2 := HQB.out.p.cbox.cell 2 rfl
       have c3 := HQB.out.p.cbox.cell 3 rfl
       have d0 := HQB.out.p.cbox.frozen 0
       have d1 := HQB.out.p.cbox.frozen 1
       have d2 := HQB.out.p.cbox.frozen 2
       have d3 := HQB.out.p.cbox.frozen 3
       have oo0 := HQD.out.p.abox.cell 0 rfl
       have oo1 := HQD.out.p.abox.cell 1 rfl
       have oo2 := HQD.out.p.abox.cell 2 rfl
       have oo3 := HQD.out.p.abox.cell 3 rfl
       have yy0 := HQD.out.bbox.cell 0 rfl
       have yy1 := HQD.out.bbox.cell 1 rfl
       have yy2 := HQD.out.bbox.cell 2 rfl
       have yy3 := HQD.out.bbox.cell 3 rfl
       have rr0 := HQD.out.p.rbox.cell 0 rfl
       have rr1 := HQD.out.p.rbox.cell 1 rfl
       have rr2 := HQD.out.p.rbox.cell 2 rfl
       have rr3 := HQD.out.p.rbox.cell 3 rfl
       have ss0 := HQD.out.p.rbox.frozen 0
       have ss1 := HQD.out.p.rbox.frozen 1
       have ss2 := HQD.out.p.rbox.frozen 2
       have ss3 := HQD.out.p.rbox.frozen 3
       have cc0 := HQD.out.p.cbox.cell 0 rfl
       have cc1 := HQD.out.p.cbox.cell 1 rfl
       have cc2 := HQD.out.p.cbox.cell 2 rfl
       have cc3 := HQD.out.p.cbox.cell 3 rfl
       have dd0 := HQD.out.p.cbox.frozen 0
       have dd1 := HQD.out.p.cbox.frozen 1
       have dd2 := HQD.out.p.cbox.frozen 2
       have dd3 := HQD.out.p.cbox.frozen 3
       go_region
       all_goals (
        go_wp2
        refine bodyPost_ret (pair_results rfl rfl (blk_drewD (blk_put4D (put4D HQB.out.p.rbox) hnrc)) (blk_drewD (put4D (blk_put4D HQB.out.p.cbox (fun e => hnrc e.symm))))) rfl ?_
        exact ((HQB.out.p.mono (by omega)).fin (b := ⟨a.states, a.initial, a.labels, R⟩) ⟨own_lower HQB.out.own.1 HQB.out.bel, own_lower HQB.out.own.2 HQB.out.bel⟩ HLO.out.short HLO.out.short).drew)
  ·have HP5 : Hid (PEnv sb (n + 2022) ra rc ab a (.slice lp a.labels.length lc) (.slice ep a.edges.length ec) w w4.drew) := HP4.out.below ((Below.refl _ _).drew)
   have HDB := Lib.hid (drawL_any sb (n + 2022) w4.drew HP5.out.drew.2 (by omega))
   have o0 := HP4.out.abox.cell 0 rfl
   have o1 := HP4.out.abox.cell 1 rfl
   have o2 := HP4.out.abox.cell 2 rfl
   have o3 := HP4.out.abox.cell 3 rfl
   have y0 := HP5.out.abox.cell 0 rfl
   have y1 := HP5.out.abox.cell 1 rfl
   have y2 := HP5.out.abox.cell 2 rfl
   have y3 := HP5.out.abox.cell 3 rfl
   go_upto_region 3 with fail
   go_region_law
    (first
     | (go_simp; go_at_call 26; refine Calls.mono HDB.out ?_; rintro e w5 ⟨b, lb, eb, rfl, hd5, hown5, hlo5⟩; obtain ⟨lq, ld, rfl, -, -⟩ := owns_slice hown5.1; obtain ⟨eq, ed, rfl, -, -⟩ := owns_slice hown5.2; have hp5 := HP5.out.then hd5; have x0 := hp5.abox.cell 0 rfl; have x1 := hp5.abox.cell 1 rfl; have x2 := hp5.abox.cell 2 rfl; have x3 := hp5.abox.cell 3 rfl; have r0 := hp5.rbox.cell 0 rfl; have r1 := hp5.rbox.cell 1 rfl; have r2 := hp5.rbox.cell 2 rfl; have r3 := hp5.rbox.cell 3 rfl; have s0 := hp5.rbox.frozen 0; have s1 := hp5.rbox.frozen 1; have s2 := hp5.rbox.frozen 2; have s3 := hp5.rbox.frozen 3; have c0 := hp5.cbox.cell 0 rfl; have c1 := hp5.cbox.cell 1 rfl; have c2 := hp5.cbox.cell 2 rfl; have c3 := hp5.cbox.cell 3 rfl; have d0 := hp5.cbox.frozen 0; have d1 := hp5.cbox.frozen 1; have d2 := hp5.cbox.frozen 2; have d3 := hp5.cbox.frozen 3))
   all_goals (
    go_wp2
    refine bodyPost_ret (pair_results rfl rfl (blk_put4D (put4D hp5.rbox) hnrc) (put4D (blk_put4D hp5.cbox (fun e => hnrc e.symm)))) rfl ?_
    exact (hp5.mono (by omega)).fin (hown5.lower HP5.out.drew.size) HLO.out.short hlo5.short)
 ·have HIN := Lib.hid (Decides.no HIS.out hv)
  clear hv HIS
  go_wp2_with fail
  rw [← HW2.out]
  try rw [← HAB.out]
  refine Calls.mono HIN.out ?_
  rintro e w4 ⟨rfl, hb3⟩
  have HP4 := Lib.hid ((HP2.out.below hb3).mono (show n + 2020 ≤ n + 2022 by omega))
  clear hb3 HIN HP2 HP
  have HP5 : Hid (PEnv sb (n + 2022) ra rc ab a (.slice lp a.labels.length lc) (.slice ep a.edges.length ec) w w4.drew) := HP4.out.below ((Below.refl _ _).drew)
  have HDB := Lib.hid (drawL_any sb (n + 2022) w4.drew HP5.out.drew.2 (by omega))
  have o0 := HP4.out.abox.cell 0 rfl
  have o1 := HP4.out.abox.cell 1 rfl
  have o2 := HP4.out.abox.cell 2 rfl
  have o3 := HP4.out.abox.cell 3 rfl
  have y0 := HP5.out.abox.cell 0 rfl
  have y1 := HP5.out.abox.cell 1 rfl
  have y2 := HP5.out.abox.cell 2 rfl
  have y3 := HP5.out.abox.cell 3 rfl
  go_upto_region 3 with fail
  go_region_law
   (first
    | (go_simp; go_at_call 26; refine Calls.mono HDB.out ?_; rintro e w5 ⟨b, lb, eb, rfl, hd5, hown5, hlo5⟩; obtain ⟨lq, ld, rfl, -, -⟩ := owns_slice hown5.1; obtain ⟨eq, ed, rfl, -, -⟩ := owns_slice hown5.2; have hp5 := HP5.out.then hd5; have x0 := hp5.abox.cell 0 rfl; have x1 := hp5.abox.cell 1 rfl; have x2 := hp5.abox.cell 2 rfl; have x3 := hp5.abox.cell 3 rfl; have r0 := hp5.rbox.cell 0 rfl; have r1 := hp5.rbox.cell 1 rfl; have r2 := hp5.rbox.cell 2 rfl; have r3 := hp5.rbox.cell 3 rfl; have s0 := hp5.rbox.frozen 0; have s1 := hp5.rbox.frozen 1; have s2 := hp5.rbox.frozen 2; have s3 := hp5.rbox.frozen 3; have c0 := hp5.cbox.cell 0 rfl; have c1 := hp5.cbox.cell 1 rfl; have c2 := hp5.cbox.cell 2 rfl; have c3 := hp5.cbox.cell 3 rfl; have d0 := hp5.cbox.frozen 0; have d1 := hp5.cbox.frozen 1; have d2 := hp5.cbox.frozen 2; have d3 := hp5.cbox.frozen 3))
  all_goals (
   go_wp2
   refine bodyPost_ret (pair_results rfl rfl (blk_put4D (put4D hp5.rbox) hnrc) (put4D (blk_put4D hp5.cbox (fun e => hnrc e.symm)))) rfl ?_
   exact (hp5.mono (by omega)).fin (hown5.lower HP5.out.drew.size) HLO.out.short hlo5.short)

end Go.Proofs.YtnmkncioekdehaaGreatDoor
