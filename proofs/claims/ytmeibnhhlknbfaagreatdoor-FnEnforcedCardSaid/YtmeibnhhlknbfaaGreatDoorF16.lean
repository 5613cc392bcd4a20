/-
  The reference's drawer of a model and a property.
  The search over pairs of a set of states and a state of a property, found row for row. Plain.
  The pairs that can leave: the least set, and a list of marks that is it. Plain.
  The verdict for states of a model and a state of a property. Plain.
  Monitors: a deterministic system with a verdict for each state; its memory. Plain.
  MakeMonitor: the search over pairs, and what is returned. Plain.
  Rows as keys of a map.
  Lists in different blocks; a monitor's box filled.
  A system out of the search: plain facts, and a struct of four cells.
-/
import Derived.Test.YtmeibnhhlknbfaaGreatDoorF15
import Derived.Deep.Cut
import Derived.Test.YtmeibnhhlknbfaaGreatDoorF7
import Derived.Test.YtmeibnhhlknbfaaGreatDoorF3
import Derived.Test.YtmeibnhhlknbfaaGreatDoorF10
import Derived.Test.YtmeibnhhlknbfaaGreatDoorF2
import Derived.Test.YtmeibnhhlknbfaaGreatDoorF14
import Derived.Test.YtmeibnhhlknbfaaGreatDoorF1
import Derived.Maps.OwnOps
import Derived.Test.YtmeibnhhlknbfaaGreatDoorF9
import Derived.Lib.ItoaNum
import Derived.Lib.ItoaLen
import Derived.Deep.RegionLaw
import Derived.Deep.AppendLies
import Derived.Handy
namespace Go.Proofs.YtmeibnhhlknbfaaGreatDoor
open Go Go.RowKit


set_option maxRecDepth 100000 in
set_option maxHeartbeats 8000000 in
theorem drawBoth_any (sb n : Nat) (w : World) (hs : Src sb n w) (hn : n ≤ 700000000) :
  Calls Tryz.prog 19 #[.pointer (some ⟨sb, 0, none⟩)] w (RetBoth sb (n + 3000) w) := by
 have hsb := hs.lt
 obtain ⟨ra, hra⟩ : ∃ ra, ra = w.heap.size := ⟨_, rfl⟩
 obtain ⟨rc, hrc⟩ : ∃ rc, rc = w.heap.size + 1 := ⟨_, rfl⟩
 obtain ⟨W, hW⟩ : ∃ W, W = (w.alloc (.cells #[.int .i64 0, .int .i64 0, .slice none 0 0, .slice none 0 0] 27)).alloc (.cells #[.int .i64 0, .int .i64 0, .slice none 0 0, .slice none 0 0] 27) := ⟨_, rfl⟩
 have hb : Below w.heap.size w W := by rw [hW]; exact ((Below.refl _ _).alloc (Nat.le_refl _) _).alloc (by simp) _
 have hR : Blk W ra [.int .i64 0, .int .i64 0, .slice none 0 0, .slice none 0 0] 27 := by rw [hW, hra]; exact (Blk.new w _ _).alloc _
 have hC : Blk W rc [.int .i64 0, .int .i64 0, .slice none 0 0, .slice none 0 0] 27 := by
  have := Blk.new (w.alloc (.cells #[.int .i64 0, .int .i64 0, .slice none 0 0, .slice none 0 0] 27)) [.int .i64 0, .int .i64 0, .slice none 0 0, .slice none 0 0] 27
  rw [World.size_alloc, ← hrc] at this
  rw [hW]
  exact this
 have HD0 := Lib.hid ((Drew.refl hs).below hb)
 have HDA := Lib.hid (drawL_any sb n W HD0.out.2 (by omega))
 have HR := Lib.hid hR
 have HC := Lib.hid hC
 have HW := Lib.hid hW
 have HRA := Lib.hid hra
 have HRC := Lib.hid hrc
 have hsW : w.heap.size ≤ W.heap.size := hb.size
 have hral : w.heap.size ≤ ra := by omega
 have hrcl : w.heap.size ≤ rc := by omega
 have hnrc : ra ≠ rc := by omega
 clear hs hW hb hR hC hra hrc
 go_enter Tryz.func19, Tryz.ntmps19
 go_wp2_with fail
 rw [← HW.out]
 rw [← HRC.out]
 rw [← HRA.out]
 refine Calls.mono HDA.out ?_
 rintro e w1 ⟨a, la, ea, rfl, hd1, hown, hlo⟩
 obtain ⟨lp, lc, rfl, -, -⟩ := owns_slice hown.1
 obtain ⟨ep, ec, rfl, -, -⟩ := owns_slice hown.2
 obtain ⟨tb, htb⟩ : ∃ tb, tb = w1.heap.size := ⟨_, rfl⟩
 obtain ⟨W2, hW2⟩ : ∃ W2, W2 = w1.alloc (.cells #[.int .i64 a.states, .int .i64 a.initial, .slice lp a.labels.length lc, .slice ep a.edges.length ec] 27) := ⟨_, rfl⟩
 have hb2 : Below w1.heap.size w1 W2 := by rw [hW2]; exact (Below.refl _ _).alloc (Nat.le_refl _) _
 have hs1 : W.heap.size ≤ w1.heap.size := hd1.size
 have HP2 : Hid (PEnv sb (n + 2020) ra rc tb a (.slice lp a.labels.length lc) (.slice ep a.edges.length ec) w W2) := by
  have hrl := HR.out.lt
  have hcl := HC.out.lt
  refine ⟨(HD0.out.trans hd1).below hb2, hsb, (hown.lower hsW).below hb2, ?_, (hd1.blk HR.out (by omega)).below hb2, (hd1.blk HC.out (by omega)).below hb2, by omega, hral, hrcl, by omega, by omega, hnrc⟩
  rw [hW2, htb]
  exact Blk.new _ _ _
 have HLO := Lib.hid hlo
 have HON := Lib.hid (one_any sb (n + 2020) 25 W2 HP2.out.drew.2 (by omega) (by decide))
 have HW2 := Lib.hid hW2
 have HTB := Lib.hid htb
 clear hd1 hown hlo hb2 hW2 htb HDA HD0 HR HC
 go_wp2_with fail
 rw [← HW2.out]
 try rw [← HTB.out]
 refine Calls.mono HON.out ?_
 rintro e w3 ⟨b, rfl, hd3⟩
 have HP3 : Hid (PEnv sb (n + 2022) ra rc tb a (.slice lp a.labels.length lc) (.slice ep a.edges.length ec) w w3) := HP2.out.then hd3
 clear hd3 HON HP2
 go_upto_if 14 with fail
 go_cut [] from 11 (fun wx => ∃ (t : Lts) (lt et : Value), PEnv sb (n + 2050) ra rc tb t lt et w wx ∧ LooseOk t)
 case first =>
  cases b
  ·go_wp2
   go_meet
   case rel => exact ⟨a, _, _, HP3.out.mono (by omega), HLO.out⟩
  ·have HDL := Lib.hid (drawLong_any sb (n + 2022) w3 HP3.out.drew.2 (by omega))
   go_wp2_with fail
   refine Calls.mono HDL.out ?_
   rintro e w4 ⟨t, lt, et, rfl, hd4, hown4, hlo4⟩
   have HP4 := Lib.hid (HP3.out.then hd4)
   obtain ⟨lp4, lc4, rfl, -, -⟩ := owns_slice hown4.1
   obtain ⟨ep4, ec4, rfl, -, -⟩ := owns_slice hown4.2
   have HPS := Lib.hid (HP4.out.store (hown4.lower HP3.out.drew.size))
   have HLO4 := Lib.hid hlo4
   have o0 := HP4.out.abox.cell 0 rfl
   have o1 := HP4.out.abox.cell 1 rfl
   have o2 := HP4.out.abox.cell 2 rfl
   have o3 := HP4.out.abox.cell 3 rfl
   have f0 := HP4.out.abox.frozen 0
   have f1 := HP4.out.abox.frozen 1
   have f2 := HP4.out.abox.frozen 2
   have f3 := HP4.out.abox.frozen 3
   clear hd4 hown4 hlo4 HDL
   go_wp2
   go_meet
   case rel => exact ⟨t, _, _, HPS.out.mono (by omega), HLO4.out⟩
 obtain ⟨t, lt, et, hp5, hlo5⟩ := hcut
 obtain ⟨w5, rfl⟩ : ∃ w5 : World, w5 = wc := ⟨_, rfl⟩
 have HP5 := Lib.hid hp5
 have HLO5 := Lib.hid hlo5
 clear hp5 hlo5 HP3 HLO
 have HDK := Lib.hid (drawOk_any sb (n + 2050) w5 HP5.out.drew.2 (by omega))
 go_wp2_with fail
 refine Calls.mono HDK.out ?_
 rintro e w6 ⟨p6, lv6, ev6, rfl, hd6, hown6, hdr6⟩
 obtain ⟨lp6, lc6, rfl, -, -⟩ := owns_slice hown6.1
 obtain ⟨ep6, ec6, rfl, -, -⟩ := owns_slice hown6.2
 obtain ⟨Be, hBe⟩ : ∃ Be, Be = w5.heap.size := ⟨_, rfl⟩
 obtain ⟨pb, hpb⟩ : ∃ pb, pb = w6.heap.size := ⟨_, rfl⟩
 obtain ⟨W6, hW6⟩ : ∃ W6, W6 = w6.alloc (.cells #[.int .i64 p6.states, .int .i64 p6.initial, .slice lp6 p6.labels.length lc6, .slice ep6 p6.edges.length ec6] 27) := ⟨_, rfl⟩
 have hb6 : Below w6.heap.size w6 W6 := by rw [hW6]; exact (Below.refl _ _).alloc (Nat.le_refl _) _
 have HU6 : Hid (UEnv sb (n + 2650) ra rc tb pb Be t lt et p6 (.slice lp6 p6.labels.length lc6) (.slice ep6 p6.edges.length ec6) w W6) := by
  refine ⟨(HP5.out.then hd6).below hb6, by rw [hBe]; exact HP5.out.drew.size, fun k e => by rw [hBe]; exact (HP5.out.own.1.lt k e).2, fun k e => by rw [hBe]; exact (HP5.out.own.2.lt k e).2, by rw [hBe]; exact HP5.out.abox.lt, by rw [hBe]; exact HP5.out.rbox.lt, by rw [hBe]; exact HP5.out.cbox.lt, by rw [hBe]; exact hown6.below hb6, ?_, by rw [hpb, hBe]; exact hd6.size⟩
  rw [hW6, hpb]
  exact Blk.new _ _ _
 have HG6 := Lib.hid (hdr6.good (by decide))
 have HW6 := Lib.hid hW6
 have HPB := Lib.hid hpb
 clear hd6 hown6 hdr6 hb6 hW6 hpb hBe HDK HP5
 go_upto_region 5 with fail
 try rw [← HW6.out]
 try rw [← HPB.out]
 go_cut [24] from 11 (fun v24 wx => ∃ b : Bool, v24 = .bool b ∧ (b = true → PGood t) ∧ UEnv sb (n + 2652) ra rc tb pb Be t lt et p6 (.slice lp6 p6.labels.length lc6) (.slice ep6 p6.edges.length ec6) w wx)
 case first =>
  have HIS := Lib.hid (l11Is_any tb w.heap.size t W6 (fun i hi => by have := HLO5.out.short _ (List.getElem_mem hi); omega) HU6.out.pe.ptr)
  by_cases hv : Valid t
  ·have HIY := Lib.hid (Decides.yes HIS.out hv)
   have HGT := Lib.hid (HLO5.out.good hv (by decide))
   clear hv HIS
   go_wp2_with fail
   refine Calls.mono HIY.out ?_
   rintro e w7 ⟨rfl, hb7⟩
   have HU7 := Lib.hid (HU6.out.below hb7)
   have HPK := Lib.hid (pick_any sb (n + 2650) 3 w7 HU7.out.pe.drew.2 (by omega) (by decide))
   clear hb7 HIY
   go_wp2_with fail
   refine Calls.mono HPK.out ?_
   rintro e w8 ⟨k0, rfl, hk0, -, -, hd8⟩
   have HU8 := Lib.hid (HU7.out.then hd8)
   obtain ⟨bb, hbb⟩ : ∃ bb, bb = decide (k0 > 0) := ⟨_, rfl⟩
   have hbb2 : decide (0 < k0) = bb := hbb.symm
   clear hd8 HPK HU7 hbb
   go_wp2
   go_meet
   case rel => exact ⟨_, rfl, fun _ => HGT.out, HU8.out⟩
  ·have HIN := Lib.hid (Decides.no HIS.out hv)
   clear hv HIS
   go_wp2_with fail
   refine Calls.mono HIN.out ?_
   rintro e w7 ⟨rfl, hb7⟩
   have HU7 := Lib.hid (HU6.out.below hb7)
   clear hb7 HIN
   go_wp2
   go_meet
   case rel => exact ⟨false, rfl, fun h => (by cases h), HU7.out.mono (by omega)⟩
 obtain ⟨b24, rfl, hg24, hu24⟩ := hcut
 obtain ⟨w9, rfl⟩ : ∃ w9 : World, w9 = wc := ⟨_, rfl⟩
 have HU9 := Lib.hid hu24
 have HG24 := Lib.hid hg24
 clear hu24 hg24 HU6
 go_upto_if 24 with fail
 go_cut [] from 11 (fun wx => ∃ (p : Lts) (lp ep : Value), UEnv sb (n + 2660) ra rc tb pb Be t lt et p lp ep w wx ∧ PGood p)
 case first =>
  cases b24
  ·go_wp2
   go_meet
   case rel => exact ⟨p6, _, _, HU9.out.mono (by omega), HG6.out⟩
  ·have HGT := Lib.hid (HG24.out rfl)
   have HOW := Lib.hid (l11Own_any tb w.heap.size t w9 (by have := HGT.out.few; omega) (by have := HGT.out.valid.most; omega) HU9.out.pe.ptr)
   go_wp2_with fail
   refine Calls.mono HOW.out ?_
   rintro e w10 ⟨lb, eb, rfl, hb10, hown10⟩
   have HU10 := Lib.hid (HU9.out.below hb10)
   obtain ⟨lq, ld, rfl, -, -⟩ := owns_slice hown10.1
   obtain ⟨eq, ed, rfl, -, -⟩ := owns_slice hown10.2
   have hbe9 : Be ≤ w9.heap.size := Nat.le_of_lt (Nat.lt_of_le_of_lt HU9.out.bbl HU9.out.bbox.lt)
   have HUS := Lib.hid (HU10.out.store (hown10.lower hbe9))
   have o0 := HU10.out.bbox.cell 0 rfl
   have o1 := HU10.out.bbox.cell 1 rfl
   have o2 := HU10.out.bbox.cell 2 rfl
   have o3 := HU10.out.bbox.cell 3 rfl
   have f0 := HU10.out.bbox.frozen 0
   have f1 := HU10.out.bbox.frozen 1
   have f2 := HU10.out.bbox.frozen 2
   have f3 := HU10.out.bbox.frozen 3
   obtain ⟨WS, hWS⟩ : ∃ WS, WS = (((w10.setCell ⟨pb, 0, none⟩ (.int .i64 t.states)).setCell ⟨pb, 1, none⟩ (.int .i64 t.initial)).setCell ⟨pb, 2, none⟩ (.slice lq t.labels.length ld)).setCell ⟨pb, 3, none⟩ (.slice eq t.edges.length ed) := ⟨_, rfl⟩
   rw [← hWS] at HUS
   have HWS := Lib.hid hWS
   have HON := Lib.hid (one_any sb (n + 2652) 2 WS HUS.out.pe.drew.2 (by omega) (by decide))
   clear hb10 hown10 HOW HU9 HU10 hWS
   go_upto_region 7 with fail
   rw [← HWS.out]
   go_cut [33] from 11 (fun v33 wx => ∃ b : Bool, v33 = .bool b ∧ (b = true → 0 < t.edges.length) ∧ UEnv sb (n + 2654) ra rc tb pb Be t lt et t (.slice lq t.labels.length ld) (.slice eq t.edges.length ed) w wx)
   case first =>
    go_wp2_with fail
    refine Calls.mono HON.out ?_
    rintro e w11 ⟨b1, rfl, hd11⟩
    have HU11 := Lib.hid (HUS.out.then hd11)
    clear hd11 HON HUS o0 o1 o2 o3 f0 f1 f2 f3
    have o3 := HU11.out.bbox.cell 3 rfl
    cases b1
    ·go_wp2
     go_meet
     case rel => exact ⟨false, rfl, fun h => (by cases h), HU11.out⟩
    ·by_cases hE : 0 < t.edges.length
     ·have hE2 : (0 : Int) < (t.edges.length : Int) := by omega
      have hE3 : decide ((t.edges.length : Int) > 0) = true := decide_eq_true (by omega)
      go_wp2
      go_meet
      case rel => exact ⟨_, rfl, fun _ => hE, HU11.out⟩
     ·have hE2 : ¬ (0 : Int) < (t.edges.length : Int) := by omega
      have hE3 : decide ((t.edges.length : Int) > 0) = false := decide_eq_false (by omega)
      go_wp2
      go_meet
      case rel => exact ⟨_, rfl, fun h => (by first | (simp at h; done) | (simp at h; omega)), HU11.out⟩
   obtain ⟨b33, rfl, hg33, hu33⟩ := hcut
   obtain ⟨w11, rfl⟩ : ∃ w11 : World, w11 = wc := ⟨_, rfl⟩
   have HU11 := Lib.hid hu33
   have HG33 := Lib.hid hg33
   clear hu33 hg33 HUS HON HWS o0 o1 o2 o3 f0 f1 f2 f3
   go_upto_if 33 with fail
   cases b33
   ·go_wp2
    go_meet
    case rel => exact ⟨t, _, _, HU11.out.mono (by omega), HGT.out⟩
   ·have hE := HG33.out rfl
    obtain ⟨g, c, hgc, -, -⟩ := HU11.out.own.2.form hE
    simp only [Value.slice.injEq, true_and] at hgc
    obtain ⟨rfl, rfl⟩ := hgc
    have o3 := HU11.out.bbox.cell 3 rfl
    have hmo := HGT.out.valid.most
    have HPK := Lib.hid (pick_any sb (n + 2654) t.edges.length w11 HU11.out.pe.drew.2 (by omega) (by omega))
    go_wp2_with fail
    refine Calls.mono HPK.out ?_
    rintro e w71 ⟨k0, rfl, hk0, -, hk1, hd7⟩
    have hk2 := hk1 (by omega)
    obtain ⟨k, rfl⟩ : ∃ k : Nat, k0 = (k : Int) := ⟨k0.toNat, by omega⟩
    have hk : k < t.edges.length := by omega
    have HQ7 := Lib.hid (HU11.out.then hd7)
    have HQD := Lib.hid (HQ7.out.below ((Below.refl _ _).drew))
    clear hd7 HPK hk1 hk0 hk2 o3 HU11
    have hcap : t.edges.length ≤ ed := own_capD HQ7.out.own.2
    obtain ⟨i2, hi2, hy0, hy1, hy2⟩ := info_parts info_edgeD
    obtain ⟨po, hpo⟩ : ∃ po, po = (if ed = k + 1 then 0 else (k + 1) * 3) := ⟨_, rfl⟩
    have hsl := slice_fromD 25 59 3 Tryz.underlying25 (fun _ => by kernel_rfl) g t.edges.length ed k (by omega)
    rw [← hpo] at hsl
    have HTK : Hid (w71.drew.ownsRow Be 59 3 (.slice (some ⟨g, 0, none⟩) k ed) k ((t.edges.take k).flatMap encE)) := by
     unfold Hid
     rw [← flat_take3]
     exact own_takeD HQD.out.own.2 (Nat.le_of_lt hk)
    have HCL : Hid (∀ j u, ((t.edges.drop (k + 1)).flatMap encE)[j]? = some u → w71.drew.cell? ((⟨g, po, none⟩ : Addr).add j) = some u) := by
     unfold Hid
     rw [← flat_drop3]
     exact cells_fromD HQD.out.own.2 (by omega) hcap hpo
    have HLN : Hid (((t.edges.drop (k + 1)).flatMap encE).length = (t.edges.length - (k + 1)) * 3) := by
     unfold Hid
     rw [← flat_drop3, List.length_drop, HQD.out.own.2.1]
     omega
    have HPO := Lib.hid hpo
    have hkc : k ≤ ed := by omega
    have hwk : IntKind.i64.wrap ((k : Int) + 1) = (k : Int) + 1 := by
     simp [IntKind.wrap, IntKind.bits, IntKind.signed]
     omega
    have o3 := HQ7.out.bbox.cell 3 rfl
    have HGO := Lib.hid (HGT.out.erase k)
    clear hpo
    go_upto_region 9 with fail
    have y3 : w71.drew.cell? ⟨pb, 3, none⟩ = _ := o3
    go_region_law
     ((refine step_fitsD _ (by rfl) _ _ _ (by rfl) Be 59 i2 3 Tryz.underlying25 hi2 hy1 g k ed ((t.edges.take k).flatMap encE) (by rfl) HTK.out ⟨g, po, none⟩ (t.edges.length - (k + 1)) (ed - (k + 1)) ((t.edges.drop (k + 1)).flatMap encE) (by rfl) HLN.out HCL.out (encE_oneD _) (by omega) ?_; intro w8 hown8 hgrow8; have htn8 := HQD.out.turn hgrow8; have q3 := htn8.2.2.cell 3 rfl; have f3 := htn8.2.2.frozen 3))
    all_goals (
     obtain ⟨EN, hEN⟩ : ∃ EN, EN = k + (t.edges.length - (k + 1)) := ⟨_, rfl⟩
     have hel : EN = (t.edges.eraseIdx k).length := by rw [hEN, List.length_eraseIdx, if_pos hk]; omega
     have hfl : (t.edges.take k).flatMap encE ++ (t.edges.drop (k + 1)).flatMap encE = (t.edges.eraseIdx k).flatMap encE := by rw [← List.flatMap_append, ← List.eraseIdx_eq_take_drop_succ]
     have ho8 : w8.ownsRow Be 59 3 (.slice (some ⟨g, 0, none⟩) EN ed) (t.edges.eraseIdx k).length ((t.edges.eraseIdx k).flatMap encE) := by
      rw [← hfl, ← hel, hEN]
      exact hown8
     rw [← hEN]
     have HQT : Hid (UEnv sb (n + 2656) ra rc tb pb Be t lt et (eraseE t k) _ _ w (w8.setCell ⟨pb, 3, none⟩ (.slice (some ⟨g, 0, none⟩) EN ed))) := HQD.out.turned hgrow8 ho8
     clear hkc hwk hown8 hgrow8 htn8 ho8 hfl hel hEN HQ7 HQD HTK HCL HLN HPO hsl hi2 hy0 hy1 hy2
     try go_wp2
     go_meet
     case rel => exact ⟨eraseE t k, _, _, HQT.out.mono (by omega), HGO.out⟩)
 obtain ⟨p, lp1, ep1, hu12, hg12⟩ := hcut
 obtain ⟨w12, rfl⟩ : ∃ w12 : World, w12 = wc := ⟨_, rfl⟩
 have HU12 := Lib.hid hu12
 have HG12 := Lib.hid hg12
 clear hu12 hg12 HU9 HG6 HG24
 have HON := Lib.hid (one_any sb (n + 2660) 10 w12 HU12.out.pe.drew.2 (by omega) (by decide))
 go_wp2_with fail
 refine Calls.mono HON.out ?_
 rintro e w13 ⟨b2, rfl, hd13⟩
 have HU13 := Lib.hid (HU12.out.then hd13)
 clear hd13 HON HU12
 go_upto_if 52 with fail
 go_cut [] from 11 (fun wx => ∃ (p : Lts) (lp ep : Value), UEnv sb (n + 2670) ra rc tb pb Be t lt et p lp ep w wx ∧ BendIn 11 300 p)
 case first =>
  cases b2
  ·have HST := Lib.hid (l12Sets_any pb Be p w13 HG12.out.valid HU13.out.ptr)
   go_wp2_with fail
   refine Calls.mono HST.out ?_
   rintro e w14 ⟨hb14, ⟨-, rfl⟩ | ⟨st, lv, vr, ve, hok, rfl, hdm, hol⟩⟩
   ·have HU14 := Lib.hid (HU13.out.below hb14)
    obtain ⟨W14, hW14⟩ : ∃ W14, W14 = w14.alloc (.cells #[.int .i64 0, .int .i64 0, .slice none 0 0, .slice none 0 0] 27) := ⟨_, rfl⟩
    have hbx : Below w14.heap.size w14 W14 := by rw [hW14]; exact (Below.refl _ _).alloc (Nat.le_refl _) _
    have HUX := Lib.hid (HU14.out.below hbx)
    have HW14 := Lib.hid hW14
    clear hb14 HST hbx hW14
    go_wp2
    rw [← HW14.out]
    go_meet
    case rel => exact ⟨p, _, _, HUX.out.mono (by omega), HG12.out.bend⟩
   ·have HU14 := Lib.hid (HU13.out.below hb14)
    have hbe13 : Be ≤ w13.heap.size := Nat.le_of_lt (Nat.lt_of_le_of_lt HU13.out.bbl HU13.out.bbox.lt)
    obtain ⟨lq, ld, rfl, -, -⟩ := owns_slice hol
    obtain ⟨eq, ed, rfl, -, -⟩ := owns_slice hdm.2
    have hod : OwnLts Be w14 (.slice lq p.labels.length ld) (.slice eq st.edges.length ed) ⟨st.rows.length, 0, p.labels, st.edges⟩ := ⟨own_lower hol hbe13, own_lower hdm.2 hbe13⟩
    obtain ⟨W14, hW14⟩ : ∃ W14, W14 = w14.alloc (.cells #[.int .i64 st.rows.length, .int .i64 0, .slice lq p.labels.length ld, .slice eq st.edges.length ed] 27) := ⟨_, rfl⟩
    have hbx : Below w14.heap.size w14 W14 := by rw [hW14]; exact (Below.refl _ _).alloc (Nat.le_refl _) _
    have HUX := Lib.hid (HU14.out.below hbx)
    have HUS := Lib.hid ((HU14.out.store hod).below ((Below.refl _ _).alloc (Nat.le_refl _) (.cells #[.int .i64 st.rows.length, .int .i64 0, .slice lq p.labels.length ld, .slice eq st.edges.length ed] 27)))
    have HBD := Lib.hid (sets_bend HG12.out hok)
    have HW14 := Lib.hid hW14
    have o0 := HUX.out.bbox.cell 0 rfl
    have o1 := HUX.out.bbox.cell 1 rfl
    have o2 := HUX.out.bbox.cell 2 rfl
    have o3 := HUX.out.bbox.cell 3 rfl
    have f0 := HUX.out.bbox.frozen 0
    have f1 := HUX.out.bbox.frozen 1
    have f2 := HUX.out.bbox.frozen 2
    have f3 := HUX.out.bbox.frozen 3
    have hbl14 := HU14.out.bbox.lt
    have q0 := HU14.out.bbox.cell 0 rfl
    have q1 := HU14.out.bbox.cell 1 rfl
    have q2 := HU14.out.bbox.cell 2 rfl
    have q3 := HU14.out.bbox.cell 3 rfl
    have g0 := HU14.out.bbox.frozen 0
    have g1 := HU14.out.bbox.frozen 1
    have g2 := HU14.out.bbox.frozen 2
    have g3 := HU14.out.bbox.frozen 3
    rw [hW14] at o0 o1 o2 o3 f0 f1 f2 f3
    clear hb14 HST hbx hW14 hok hdm hol hod
    go_wp2
    try rw [← HW14.out]
    go_meet
    case rel => exact ⟨⟨st.rows.length, 0, p.labels, st.edges⟩, _, _, HUS.out.mono (by omega), HBD.out⟩
  ·go_wp2
   go_meet
   case rel => exact ⟨p, _, _, HU13.out.mono (by omega), HG12.out.bend⟩
 obtain ⟨d, lp2, ep2, hu15, hg15⟩ := hcut
 obtain ⟨w15, rfl⟩ : ∃ w15 : World, w15 = wc := ⟨_, rfl⟩
 have HU15 := Lib.hid hu15
 have HG15 := Lib.hid hg15
 clear hu15 hg15 HU13 HG12
 go_upto_region 14 with fail
 go_cut [67] from 11 (fun v67 wx => ∃ b : Bool, v67 = .bool b ∧ (b = true → 0 < d.edges.length) ∧ UEnv sb (n + 2672) ra rc tb pb Be t lt et d lp2 ep2 w wx)
 case first =>
  have HON := Lib.hid (one_any sb (n + 2670) 4 w15 HU15.out.pe.drew.2 (by omega) (by decide))
  go_wp2_with fail
  refine Calls.mono HON.out ?_
  rintro e w16 ⟨b3, rfl, hd16⟩
  have HU16 := Lib.hid (HU15.out.then hd16)
  clear hd16 HON HU15
  obtain ⟨eq, ed, rfl, -, -⟩ := owns_slice HU16.out.own.2
  have o3 := HU16.out.bbox.cell 3 rfl
  cases b3
  ·go_wp2
   go_meet
   case rel => exact ⟨false, rfl, fun h => (by cases h), HU16.out⟩
  ·by_cases hE : 0 < d.edges.length
   ·have hE2 : (0 : Int) < (d.edges.length : Int) := by omega
    have hE3 : decide ((d.edges.length : Int) > 0) = true := decide_eq_true (by omega)
    go_wp2
    go_meet
    case rel => exact ⟨_, rfl, fun _ => hE, HU16.out⟩
   ·have hE2 : ¬ (0 : Int) < (d.edges.length : Int) := by omega
    have hE3 : decide ((d.edges.length : Int) > 0) = false := decide_eq_false (by omega)
    go_wp2
    go_meet
    case rel => exact ⟨_, rfl, fun h => (by first | (simp at h; done) | (simp at h; omega)), HU16.out⟩
 obtain ⟨b67, rfl, hg67, hu67⟩ := hcut
 obtain ⟨w16, rfl⟩ : ∃ w16 : World, w16 = wc := ⟨_, rfl⟩
 have HU16 := Lib.hid hu67
 have HG67 := Lib.hid hg67
 clear hu67 hg67 HU15
 go_upto_if 67 with fail
 go_cut [] from 11 (fun wx => ∃ (p : Lts) (lp ep : Value), UEnv sb (n + 2680) ra rc tb pb Be t lt et p lp ep w wx ∧ BendIn 11 300 p)
 case first =>
  cases b67
  ·go_wp2
   go_meet
   case rel => exact ⟨d, _, _, HU16.out.mono (by omega), HG15.out⟩
  ·have hE := HG67.out rfl
   obtain ⟨eq, ed, rfl, -, -⟩ := owns_slice HU16.out.own.2
   obtain ⟨g, c, hgc, -, -⟩ := HU16.out.own.2.form hE
   simp only [Value.slice.injEq, true_and] at hgc
   obtain ⟨rfl, rfl⟩ := hgc
   have o3 := HU16.out.bbox.cell 3 rfl
   have hmo := HG15.out.most
   have HPK := Lib.hid (pick_any sb (n + 2672) d.edges.length w16 HU16.out.pe.drew.2 (by omega) (by omega))
   go_wp2_with fail
   refine Calls.mono HPK.out ?_
   rintro e w71 ⟨k0, rfl, hk0, -, hk1, hd7⟩
   have hk2 := hk1 (by omega)
   obtain ⟨k, rfl⟩ : ∃ k : Nat, k0 = (k : Int) := ⟨k0.toNat, by omega⟩
   have hk : k < d.edges.length := by omega
   have HQ7 := Lib.hid (HU16.out.then hd7)
   have HQD := Lib.hid (HQ7.out.below ((Below.refl _ _).drew))
   clear hd7 HPK hk1 hk0 hk2 o3 HU16
   have hcap : d.edges.length ≤ ed := own_capD HQ7.out.own.2
   obtain ⟨i2, hi2, hy0, hy1, hy2⟩ := info_parts info_edgeD
   obtain ⟨po, hpo⟩ : ∃ po, po = (if ed = k + 1 then 0 else (k + 1) * 3) := ⟨_, rfl⟩
   have hsl := slice_fromD 25 59 3 Tryz.underlying25 (fun _ => by kernel_rfl) g d.edges.length ed k (by omega)
   rw [← hpo] at hsl
   have HTK : Hid (w71.drew.ownsRow Be 59 3 (.slice (some ⟨g, 0, none⟩) k ed) k ((d.edges.take k).flatMap encE)) := by
    unfold Hid
    rw [← flat_take3]
    exact own_takeD HQD.out.own.2 (Nat.le_of_lt hk)
   have HCL : Hid (∀ j u, ((d.edges.drop (k + 1)).flatMap encE)[j]? = some u → w71.drew.cell? ((⟨g, po, none⟩ : Addr).add j) = some u) := by
    unfold Hid
    rw [← flat_drop3]
    exact cells_fromD HQD.out.own.2 (by omega) hcap hpo
   have HLN : Hid (((d.edges.drop (k + 1)).flatMap encE).length = (d.edges.length - (k + 1)) * 3) := by
    unfold Hid
    rw [← flat_drop3, List.length_drop, HQD.out.own.2.1]
    omega
   have HPO := Lib.hid hpo
   have hkc : k ≤ ed := by omega
   have hwk : IntKind.i64.wrap ((k : Int) + 1) = (k : Int) + 1 := by
    simp [IntKind.wrap, IntKind.bits, IntKind.signed]
    omega
   have o3 := HQ7.out.bbox.cell 3 rfl
   have HGO := Lib.hid (HG15.out.erase k)
   clear hpo
   go_upto_region 16 with fail
   have y3 : w71.drew.cell? ⟨pb, 3, none⟩ = _ := o3
   go_region_law
    ((refine step_fitsD _ (by rfl) _ _ _ (by rfl) Be 59 i2 3 Tryz.underlying25 hi2 hy1 g k ed ((d.edges.take k).flatMap encE) (by rfl) HTK.out ⟨g, po, none⟩ (d.edges.length - (k + 1)) (ed - (k + 1)) ((d.edges.drop (k + 1)).flatMap encE) (by rfl) HLN.out HCL.out (encE_oneD _) (by omega) ?_; intro w8 hown8 hgrow8; have htn8 := HQD.out.turn hgrow8; have q3 := htn8.2.2.cell 3 rfl; have f3 := htn8.2.2.frozen 3))
   all_goals (
    obtain ⟨EN, hEN⟩ : ∃ EN, EN = k + (d.edges.length - (k + 1)) := ⟨_, rfl⟩
    have hel : EN = (d.edges.eraseIdx k).length := by rw [hEN, List.length_eraseIdx, if_pos hk]; omega
    have hfl : (d.edges.take k).flatMap encE ++ (d.edges.drop (k + 1)).flatMap encE = (d.edges.eraseIdx k).flatMap encE := by rw [← List.flatMap_append, ← List.eraseIdx_eq_take_drop_succ]
    have ho8 : w8.ownsRow Be 59 3 (.slice (some ⟨g, 0, none⟩) EN ed) (d.edges.eraseIdx k).length ((d.edges.eraseIdx k).flatMap encE) := by
     rw [← hfl, ← hel, hEN]
     exact hown8
    rw [← hEN]
    have HQT : Hid (UEnv sb (n + 2674) ra rc tb pb Be t lt et (eraseE d k) _ _ w (w8.setCell ⟨pb, 3, none⟩ (.slice (some ⟨g, 0, none⟩) EN ed))) := HQD.out.turned hgrow8 ho8
    clear hkc hwk hown8 hgrow8 htn8 ho8 hfl hel hEN HQ7 HQD HTK HCL HLN HPO hsl hi2 hy0 hy1 hy2
    try go_wp2
    go_meet
    case rel => exact ⟨eraseE d k, _, _, HQT.out.mono (by omega), HGO.out⟩)
 obtain ⟨z, lp3, ep3, hu17, hg17⟩ := hcut
 obtain ⟨w17, rfl⟩ : ∃ w17 : World, w17 = wc := ⟨_, rfl⟩
 have HU17 := Lib.hid hu17
 have HG17 := Lib.hid hg17
 clear hu17 hg17 HU16 HG15 HG67
 have HUD := Lib.hid (HU17.out.below ((Below.refl _ _).drew))
 have hbel := HU17.out.bel
 have HBD := Lib.hid (bend_gen sb (n + 2680) Be 11 300 z lp3 ep3 w17.drew HUD.out.pe.drew.2 (by omega) HG17.out (by decide) (by decide) (SliceK.of_owns (enc := encS) (e := 9) encS_len rfl (by rw [flat_encS]; exact HUD.out.own.1)) (SliceK.of_owns (e := 59) encE_len rfl HUD.out.own.2))
 obtain ⟨lp7, lc7, rfl, -, -⟩ := owns_slice HU17.out.own.1
 obtain ⟨ep7, ec7, rfl, -, -⟩ := owns_slice HU17.out.own.2
 obtain ⟨lp8, lc8, rfl, -, -⟩ := owns_slice HU17.out.pe.own.1
 obtain ⟨ep8, ec8, rfl, -, -⟩ := owns_slice HU17.out.pe.own.2
 have o0 := HU17.out.pe.abox.cell 0 rfl
 have o1 := HU17.out.pe.abox.cell 1 rfl
 have o2 := HU17.out.pe.abox.cell 2 rfl
 have o3 := HU17.out.pe.abox.cell 3 rfl
 have p0 := HU17.out.bbox.cell 0 rfl
 have p1 := HU17.out.bbox.cell 1 rfl
 have p2 := HU17.out.bbox.cell 2 rfl
 have p3 := HU17.out.bbox.cell 3 rfl
 have y0 : w17.drew.cell? ⟨tb, 0, none⟩ = _ := o0
 have y1 : w17.drew.cell? ⟨tb, 1, none⟩ = _ := o1
 have y2 : w17.drew.cell? ⟨tb, 2, none⟩ = _ := o2
 have y3 : w17.drew.cell? ⟨tb, 3, none⟩ = _ := o3
 have z0 : w17.drew.cell? ⟨pb, 0, none⟩ = _ := p0
 have z1 : w17.drew.cell? ⟨pb, 1, none⟩ = _ := p1
 have z2 : w17.drew.cell? ⟨pb, 2, none⟩ = _ := p2
 have z3 : w17.drew.cell? ⟨pb, 3, none⟩ = _ := p3
 go_upto_region 17 with fail
 go_region_law
  (first
   | (go_simp; go_at_call 39; refine Calls.mono HBD.out ?_; rintro e w18 ⟨b, lb, eb, rfl, hd5, hown5, hlo5⟩; obtain ⟨lq, ld, rfl, -, -⟩ := owns_slice hown5.1; obtain ⟨eq, ed, rfl, -, -⟩ := owns_slice hown5.2; have hp5 := HUD.out.then hd5; have x0 := hp5.pe.abox.cell 0 rfl; have x1 := hp5.pe.abox.cell 1 rfl; have x2 := hp5.pe.abox.cell 2 rfl; have x3 := hp5.pe.abox.cell 3 rfl; have r0 := hp5.pe.rbox.cell 0 rfl; have r1 := hp5.pe.rbox.cell 1 rfl; have r2 := hp5.pe.rbox.cell 2 rfl; have r3 := hp5.pe.rbox.cell 3 rfl; have s0 := hp5.pe.rbox.frozen 0; have s1 := hp5.pe.rbox.frozen 1; have s2 := hp5.pe.rbox.frozen 2; have s3 := hp5.pe.rbox.frozen 3; have c0 := hp5.pe.cbox.cell 0 rfl; have c1 := hp5.pe.cbox.cell 1 rfl; have c2 := hp5.pe.cbox.cell 2 rfl; have c3 := hp5.pe.cbox.cell 3 rfl; have d0 := hp5.pe.cbox.frozen 0; have d1 := hp5.pe.cbox.frozen 1; have d2 := hp5.pe.cbox.frozen 2; have d3 := hp5.pe.cbox.frozen 3))
 all_goals (
  go_wp2
  refine bodyPost_ret (both_results rfl rfl (blk_put4D (put4D hp5.pe.rbox) hnrc) (put4D (blk_put4D hp5.pe.cbox (fun e => hnrc e.symm)))) rfl ?_
  exact (hp5.mono (by omega)).fin (hown5.lower HUD.out.pe.drew.size) HLO5.out.short hlo5.short)

end Go.Proofs.YtmeibnhhlknbfaaGreatDoor

namespace Go.Proofs.YtmeibnhhlknbfaaGreatDoor
open Go Go.RowKit


abbrev WSt := List Int × Int
/-- A search: where it begins, what follows a row by a label's number, how many labels. -/
structure WJob where
 first : WSt
 nx : WSt → Nat → Option WSt
 m : Nat
structure WNet where
 rows : List WSt
 edges : List Edge
def pwplace (rows : List WSt) (r : WSt) : Nat := rows.findIdx fun q => q == r
def pwadd (rows : List WSt) (r : WSt) : List WSt := if pwplace rows r < rows.length then rows else rows ++ [r]
/-- One label (its number k) of the row number i. -/
def pwstep (G : WJob) (i : Nat) (cur : WSt) (st : WNet) (k : Nat) : WNet :=
 match G.nx cur k with
 | none => st
 | some r => ⟨pwadd st.rows r, st.edges ++ [⟨(i : Int), (k : Int) + 1, (pwplace st.rows r : Int)⟩]⟩
/-- The first j labels behind tau. -/
def pwmid (G : WJob) (i : Nat) (cur : WSt) (st : WNet) (j : Nat) : WNet := (List.range j).foldl (pwstep G i cur) st
def pwrow (G : WJob) (i : Nat) (st : WNet) : WNet :=
 match st.rows[i]? with
 | none => st
 | some cur => pwmid G i cur st G.m
def pwAt (G : WJob) : Nat → WNet
 | 0 => ⟨[G.first], []⟩
 | n + 1 => pwrow G n (pwAt G n)
def WCome (G : WJob) (n : Nat) : Prop := ∀ k, k < n → k < (pwAt G k).rows.length
def WFound (G : WJob) (st : WNet) : Prop := ∃ n, WCome G n ∧ pwAt G n = st ∧ st.rows.length = n
def WSmall (st : WNet) : Prop := st.rows.length ≤ 40 ∧ st.edges.length ≤ 300
def PWOk (G : WJob) (st : WNet) : Prop := WFound G st ∧ WSmall st
/-- Somewhere on the way the net is too large. -/
def WFull (G : WJob) : Prop := ∃ n j cur, WCome G n ∧ (pwAt G n).rows[n]? = some cur ∧ j ≤ G.m ∧ ¬ WSmall (pwmid G n cur (pwAt G n) j)

/-- A net within another one. -/
structure WLe (a b : WNet) : Prop where
 rows : ∃ r, b.rows = a.rows ++ r
 edges : ∃ r, b.edges = a.edges ++ r
theorem WLe.refl (a : WNet) : WLe a a := ⟨⟨[], by simp⟩, ⟨[], by simp⟩⟩
theorem WLe.trans {a b c : WNet} (h : WLe a b) (k : WLe b c) : WLe a c := by
 obtain ⟨⟨r, h1⟩, ⟨s, h2⟩⟩ := h
 obtain ⟨⟨u, h3⟩, ⟨v, h4⟩⟩ := k
 exact ⟨⟨r ++ u, by rw [h3, h1, List.append_assoc]⟩, ⟨s ++ v, by rw [h4, h2, List.append_assoc]⟩⟩
theorem WLe.small {a b : WNet} (h : WLe a b) (hb : WSmall b) : WSmall a := by
 obtain ⟨⟨r, h1⟩, ⟨s, h2⟩⟩ := h
 unfold WSmall at *
 rw [h1, h2, List.length_append, List.length_append] at hb
 omega
theorem pwstep_none {G : WJob} {i : Nat} {cur : WSt} {st : WNet} {k : Nat} (h : G.nx cur k = none) : pwstep G i cur st k = st := by unfold pwstep; rw [h]
theorem pwstep_some {G : WJob} {i : Nat} {cur : WSt} {st : WNet} {k : Nat} {r : WSt} (h : G.nx cur k = some r) : pwstep G i cur st k = ⟨pwadd st.rows r, st.edges ++ [⟨(i : Int), (k : Int) + 1, (pwplace st.rows r : Int)⟩]⟩ := by unfold pwstep; rw [h]
theorem pwadd_prefix (rows : List WSt) (r : WSt) : ∃ u, pwadd rows r = rows ++ u := by
 unfold pwadd
 split
 ·exact ⟨[], by simp⟩
 ·exact ⟨_, rfl⟩
theorem pwstep_le (G : WJob) (i : Nat) (cur : WSt) (st : WNet) (k : Nat) : WLe st (pwstep G i cur st k) := by
 cases h : G.nx cur k with
 | none => rw [pwstep_none h]; exact WLe.refl st
 | some r => rw [pwstep_some h]; exact ⟨pwadd_prefix _ _, ⟨_, rfl⟩⟩
theorem pwmid_zero (G : WJob) (i : Nat) (cur : WSt) (st : WNet) : pwmid G i cur st 0 = st := rfl
theorem pwmid_succ (G : WJob) (i : Nat) (cur : WSt) (st : WNet) (j : Nat) : pwmid G i cur st (j + 1) = pwstep G i cur (pwmid G i cur st j) j := by
 unfold pwmid
 rw [List.range_succ, List.foldl_append]
 rfl
theorem pwmid_le (G : WJob) (i : Nat) (cur : WSt) (st : WNet) (j : Nat) : ∀ d, WLe (pwmid G i cur st j) (pwmid G i cur st (j + d))
 | 0 => WLe.refl _
 | d + 1 => by
  rw [← Nat.add_assoc, pwmid_succ]
  exact (pwmid_le G i cur st j d).trans (pwstep_le G i cur _ _)
theorem pwmid_none {G : WJob} {i : Nat} {cur : WSt} {st : WNet} (h : ∀ k, G.nx cur k = none) : ∀ j, pwmid G i cur st j = st
 | 0 => pwmid_zero ..
 | j + 1 => by rw [pwmid_succ, pwmid_none h j, pwstep_none (h j)]
theorem pwrow_le (G : WJob) (i : Nat) (st : WNet) : WLe st (pwrow G i st) := by
 unfold pwrow
 split
 ·exact WLe.refl st
 ·next cur _ =>
  have := pwmid_le G i cur st 0 G.m
  rw [Nat.zero_add] at this
  exact this
theorem pwAt_le (G : WJob) (n : Nat) : ∀ d, WLe (pwAt G n) (pwAt G (n + d))
 | 0 => WLe.refl _
 | d + 1 => by
  rw [← Nat.add_assoc]
  exact (pwAt_le G n d).trans (pwrow_le G _ _)
theorem WFound.unique {G : WJob} {a b : WNet} (ha : WFound G a) (hb : WFound G b) : a = b := by
 obtain ⟨m, hm, em, lm⟩ := ha
 obtain ⟨n, hn, en, ln⟩ := hb
 rcases Nat.lt_trichotomy m n with h | h | h
 ·have := hn m h
  rw [em] at this
  omega
 ·subst h
  exact em.symm.trans en
 ·have := hm n h
  rw [en] at this
  omega
theorem pwAt_succ {G : WJob} {n : Nat} {cur : WSt} (hcur : (pwAt G n).rows[n]? = some cur) : pwAt G (n + 1) = pwmid G n cur (pwAt G n) G.m := by
 rw [pwAt]
 unfold pwrow
 rw [hcur]
theorem WCome.succ {G : WJob} {n : Nat} (h : WCome G n) (hn : n < (pwAt G n).rows.length) : WCome G (n + 1) := by
 intro k hk
 by_cases e : k = n
 ·subst e; exact hn
 ·exact h k (by omega)
theorem WCome.zero (G : WJob) : WCome G 0 := fun k h => by omega
theorem WCome.len {G : WJob} {n : Nat} (hc : WCome G n) : n ≤ (pwAt G n).rows.length := by
 cases n with
 | zero => omega
 | succ m =>
  have h2 := hc m (by omega)
  obtain ⟨⟨r, hr⟩, -⟩ := pwAt_le G m 1
  rw [hr, List.length_append]
  omega
theorem PWOk.done {G : WJob} {n : Nat} (hc : WCome G n) (hs : WSmall (pwAt G n)) (hn : ¬ n < (pwAt G n).rows.length) : PWOk G (pwAt G n) := by
 refine ⟨⟨n, hc, rfl, ?_⟩, hs⟩
 have := hc.len
 omega
theorem pwplace_lt {rows : List WSt} {q : WSt} : pwplace rows q < rows.length ↔ q ∈ rows := by
 unfold pwplace
 rw [List.findIdx_lt_length]
 constructor
 ·rintro ⟨x, hx, h⟩
  rw [← eq_of_beq h]
  exact hx
 ·exact fun h => ⟨q, h, by simp⟩
theorem pwplace_get {rows : List WSt} {q : WSt} (h : pwplace rows q < rows.length) : rows[pwplace rows q] = q := by
 have := List.findIdx_getElem (p := fun q' => q' == q) (xs := rows) (w := h)
 exact eq_of_beq this
theorem pwplace_le (rows : List WSt) (q : WSt) : pwplace rows q ≤ rows.length := by unfold pwplace; exact List.findIdx_le_length
theorem pwplace_eq {rows : List WSt} {r : WSt} {m : Nat} (hn : rows.Nodup) (hm : m < rows.length) (h : rows[m] = r) : pwplace rows r = m := by
 have hlt : pwplace rows r < rows.length := pwplace_lt.2 (h ▸ List.getElem_mem hm)
 exact (List.getElem_inj hn).1 ((pwplace_get hlt).trans h.symm)
theorem pwadd_old {rows : List WSt} {r : WSt} (h : r ∈ rows) : pwadd rows r = rows := by unfold pwadd; rw [if_pos (pwplace_lt.2 h)]
theorem pwadd_new {rows : List WSt} {r : WSt} (h : r ∉ rows) : pwadd rows r = rows ++ [r] ∧ pwplace rows r = rows.length := by
 have h1 : ¬ pwplace rows r < rows.length := fun k => h (pwplace_lt.1 k)
 refine ⟨by unfold pwadd; rw [if_neg h1], ?_⟩
 have := pwplace_le rows r
 omega
theorem pwadd_nodup {rows : List WSt} {r : WSt} (h : rows.Nodup) : (pwadd rows r).Nodup := by
 by_cases hr : r ∈ rows
 ·rw [pwadd_old hr]; exact h
 ·rw [(pwadd_new hr).1, List.nodup_append]
  refine ⟨h, by simp, ?_⟩
  intro a ha b hb e
  rw [List.mem_singleton] at hb
  subst hb
  subst e
  exact hr ha
theorem pwadd_len (rows : List WSt) (r : WSt) : rows.length ≤ (pwadd rows r).length ∧ pwplace rows r < (pwadd rows r).length ∧ (pwadd rows r).length ≤ rows.length + 1 := by
 by_cases hr : r ∈ rows
 ·rw [pwadd_old hr]; have := pwplace_lt.2 hr; omega
 ·rw [(pwadd_new hr).1, (pwadd_new hr).2]; simp
theorem mem_pwadd {rows : List WSt} {r q : WSt} (h : q ∈ pwadd rows r) : q ∈ rows ∨ q = r := by
 by_cases hr : r ∈ rows
 ·rw [pwadd_old hr] at h; exact .inl h
 ·rw [(pwadd_new hr).1] at h
  rcases List.mem_append.1 h with h | h
  ·exact .inl h
  ·exact .inr (by simpa using h)

/-- What holds of the net at each point: all rows have Q. -/
structure WGood (G : WJob) (Q : WSt → Prop) (st : WNet) : Prop where
 nodup : st.rows.Nodup
 some : 0 < st.rows.length
 rows : ∀ r ∈ st.rows, Q r
 edges : ∀ e ∈ st.edges, (0 ≤ e.src ∧ e.src < st.rows.length) ∧ (1 ≤ e.lab ∧ e.lab < (G.m : Int) + 1) ∧ 0 ≤ e.dst ∧ e.dst < st.rows.length
/-- The job keeps Q. -/
structure WKeep (G : WJob) (Q : WSt → Prop) : Prop where
 first : Q G.first
 next : ∀ cur k r, Q cur → k < G.m → G.nx cur k = some r → Q r
theorem WGood.step {G : WJob} {Q : WSt → Prop} (hk : WKeep G Q) {st : WNet} (h : WGood G Q st) {i : Nat} (hi : i < st.rows.length) {cur : WSt} (hc : Q cur) {k : Nat} (hkm : k < G.m) : WGood G Q (pwstep G i cur st k) := by
 cases hn : G.nx cur k with
 | none => rw [pwstep_none hn]; exact h
 | some r =>
  rw [pwstep_some hn]
  have hl := pwadd_len st.rows r
  refine ⟨pwadd_nodup h.nodup, ?_, ?_, ?_⟩
  ·show 0 < (pwadd st.rows r).length
   have := h.some
   omega
  ·intro q hq
   rcases mem_pwadd hq with hq | rfl
   ·exact h.rows q hq
   ·exact hk.next cur k _ hc hkm hn
  ·intro e he
   rcases List.mem_append.1 he with he | he
   ·have := h.edges e he
    exact ⟨⟨this.1.1, by have := this.1.2; show e.src < (((pwadd st.rows r).length : Nat) : Int); omega⟩, this.2.1, this.2.2.1, by have := this.2.2.2; show e.dst < (((pwadd st.rows r).length : Nat) : Int); omega⟩
   ·rw [List.mem_singleton] at he
    subst he
    refine ⟨⟨by simp, ?_⟩, ⟨by show (1 : Int) ≤ (k : Int) + 1; omega, ?_⟩, by simp, ?_⟩
    ·show (i : Int) < (((pwadd st.rows r).length : Nat) : Int)
     omega
    ·show (k : Int) + 1 < (G.m : Int) + 1
     omega
    ·show ((pwplace st.rows r : Nat) : Int) < (((pwadd st.rows r).length : Nat) : Int)
     omega
theorem pwmid_rowAt {G : WJob} {n : Nat} {cur : WSt} {st : WNet} (h : st.rows[n]? = some cur) (j : Nat) : (pwmid G n cur st j).rows[n]? = some cur := by
 obtain ⟨⟨r, hr⟩, -⟩ := pwmid_le G n cur st 0 j
 rw [Nat.zero_add, pwmid_zero] at hr
 rw [hr, List.getElem?_append_left (List.getElem?_eq_some_iff.1 h).1]
 exact h
theorem WGood.mid {G : WJob} {Q : WSt → Prop} (hk : WKeep G Q) {st : WNet} (h : WGood G Q st) {i : Nat} {cur : WSt} (hcur : st.rows[i]? = Option.some cur) : ∀ j, j ≤ G.m → WGood G Q (pwmid G i cur st j)
 | 0, _ => by rw [pwmid_zero]; exact h
 | j + 1, hj => by
  rw [pwmid_succ]
  exact (WGood.mid hk h hcur j (by omega)).step hk (List.getElem?_eq_some_iff.1 (pwmid_rowAt hcur j)).1 (h.rows cur (List.mem_of_getElem? hcur)) (by omega)
theorem WGood.at {G : WJob} {Q : WSt → Prop} (hk : WKeep G Q) : ∀ n, WGood G Q (pwAt G n)
 | 0 => ⟨by simp [pwAt], by simp [pwAt], fun r hr => by
   have : r = G.first := by simpa [pwAt] using hr
   subst this
   exact hk.first, by simp [pwAt]⟩
 | n + 1 => by
  rw [pwAt]
  unfold pwrow
  split
  ·exact WGood.at hk n
  ·next cur hc => exact (WGood.at hk n).mid hk hc _ (Nat.le_refl _)
/-- The place found among the first m rows, or -1. -/
def pwseen (rows : List WSt) (r : WSt) (m : Nat) : Int := if pwplace rows r < m then (pwplace rows r : Int) else -1
theorem pwseen_zero (rows : List WSt) (r : WSt) : pwseen rows r 0 = -1 := by unfold pwseen; rw [if_neg (by omega)]
theorem pwseen_hit {rows : List WSt} {r : WSt} {m : Nat} (hn : rows.Nodup) (hm : m < rows.length) (h : rows[m] = r) : pwseen rows r (m + 1) = m := by
 have := pwplace_eq hn hm h
 unfold pwseen
 rw [this, if_pos (by omega)]
theorem pwseen_miss {rows : List WSt} {r : WSt} {m : Nat} (hm : m < rows.length) (h : rows[m] ≠ r) : pwseen rows r (m + 1) = pwseen rows r m := by
 have hne : pwplace rows r ≠ m := by
  intro e
  subst e
  exact h (pwplace_get hm)
 unfold pwseen
 by_cases h1 : pwplace rows r < m
 ·rw [if_pos h1, if_pos (by omega)]
 ·rw [if_neg h1, if_neg (by omega)]
theorem WFull.step {G : WJob} {n j : Nat} {cur : WSt} (hc : WCome G n) (hcur : (pwAt G n).rows[n]? = some cur) (hj : j ≤ G.m) (h : ¬ WSmall (pwmid G n cur (pwAt G n) j)) : WFull G := ⟨n, j, cur, hc, hcur, hj, h⟩

end Go.Proofs.YtmeibnhhlknbfaaGreatDoor

namespace Go.Proofs.YtmeibnhhlknbfaaGreatDoor
open Go Go.RowKit

/-- From the pair some path leads to where the property is left. -/
inductive CanLv (t p : Lts) : Int → Int → Prop
 | off {e : Edge} {q : Int} : e ∈ t.edges → toState t p e q < 0 → CanLv t p e.src q
 | go {e : Edge} {q : Int} : e ∈ t.edges → 0 ≤ toState t p e q → CanLv t p e.dst (toState t p e q) → CanLv t p e.src q
/-- An edge leads from a pair to one that is marked, or leaves. -/
def lvB (t p : Lts) (c : List Bool) (e : Edge) (q : Int) : Bool := decide (toState t p e q < 0) || c.getD (idx p e.dst (toState t p e q)) false
def LvSound (t p : Lts) (c : List Bool) : Prop := ∀ x y : Nat, (x : Int) < t.states → (y : Int) < p.states → c.getD (idx p x y) false = true → CanLv t p x y
def LvClosed (t p : Lts) (c : List Bool) : Prop := ∀ e ∈ t.edges, ∀ q : Nat, (q : Int) < p.states → lvB t p c e q = true → c.getD (idx p e.src q) false = true
def LvIs (t p : Lts) (c : List Bool) : Prop := c.length = t.states.toNat * p.states.toNat ∧ LvSound t p c ∧ LvClosed t p c
theorem LvClosed.all {t p : Lts} (_ht : Valid t) (hp : Valid p) {c : List Bool} (h : LvClosed t p c) {x q : Int} (hc : CanLv t p x q) (h0 : 0 ≤ q) (h1 : q < p.states) : c.getD (idx p x q) false = true := by
 induction hc with
 | @off e q he hlt =>
  obtain ⟨n, rfl⟩ : ∃ n : Nat, (n : Int) = q := ⟨q.toNat, by omega⟩
  exact h e he n h1 (by unfold lvB; rw [decide_eq_true hlt]; rfl)
 | @go e q he hge _ ih =>
  obtain ⟨n, rfl⟩ : ∃ n : Nat, (n : Int) = q := ⟨q.toNat, by omega⟩
  have hr := toState_range (t := t) hp e h0 h1
  exact h e he n h1 (by unfold lvB; rw [ih hge hr.2]; simp)
theorem LvIs.unique {t p : Lts} (ht : Valid t) (hp : Valid p) {c d : List Bool} (h : LvIs t p c) (k : LvIs t p d) : c = d := by
 have hs := ht.st0
 have hps := hp.st0
 obtain ⟨S, hS⟩ : ∃ S : Nat, (S : Int) = t.states := ⟨t.states.toNat, by omega⟩
 obtain ⟨P, hP⟩ : ∃ P : Nat, (P : Int) = p.states := ⟨p.states.toNat, by omega⟩
 have hlc := h.1
 have hld := k.1
 rw [← hS, ← hP] at hlc hld
 simp only [Int.toNat_natCast] at hlc hld
 have key : ∀ i, i < S * P → c.getD i false = d.getD i false := by
  intro i hi
  have hP1 : 0 < P := by omega
  have hx : i / P < S := Nat.div_lt_of_lt_mul (by rw [Nat.mul_comm]; exact hi)
  have hy : i % P < P := Nat.mod_lt _ hP1
  have hix : idx p ((i / P : Nat) : Int) ((i % P : Nat) : Int) = i := by rw [idx_nat hP]; exact Nat.div_add_mod' i P
  rw [Bool.eq_iff_iff]
  constructor
  ·intro hc
   have := h.2.1 (i / P) (i % P) (by omega) (by omega) (by rw [hix]; exact hc)
   have := k.2.2.all ht hp this (by omega) (by omega)
   rwa [hix] at this
  ·intro hd
   have := k.2.1 (i / P) (i % P) (by omega) (by omega) (by rw [hix]; exact hd)
   have := h.2.2.all ht hp this (by omega) (by omega)
   rwa [hix] at this
 refine List.ext_getElem (by omega) fun i h1 h2 => ?_
 have := key i (by omega)
 rw [List.getD_eq_getElem?_getD, List.getD_eq_getElem?_getD, List.getElem?_eq_getElem h1, List.getElem?_eq_getElem h2] at this
 simpa using this

/-- What became of c0: more are marked, or nothing. -/
def More (c0 c : List Bool) (b : Bool) : Prop := c.length = c0.length ∧ ((b = true ∧ c.count false < c0.count false) ∨ (b = false ∧ c = c0))
theorem More.refl (c : List Bool) : More c c false := ⟨rfl, .inr ⟨rfl, rfl⟩⟩
theorem count_setF {c : List Bool} {i : Nat} (hi : i < c.length) (h : c.getD i false = false) : (c.set i true).count false < c.count false := by
 induction c generalizing i with
 | nil => simp at hi
 | cons x r ih =>
  cases i with
  | zero =>
   have : x = false := by simpa [List.getD] using h
   subst this
   simp
  | succ i =>
   have := ih (i := i) (by simpa using hi) (by simpa [List.getD] using h)
   simp only [List.set_cons_succ, List.count_cons]
   omega
theorem More.set {c0 c : List Bool} {b : Bool} (h : More c0 c b) {i : Nat} (hl : i < c.length) (hi : c.getD i false = false) : More c0 (c.set i true) true := by
 refine ⟨by rw [List.length_set]; exact h.1, .inl ⟨rfl, ?_⟩⟩
 have h1 := count_setF hl hi
 rcases h.2 with ⟨-, h2⟩ | ⟨-, rfl⟩
 ·omega
 ·exact h1
theorem getD_setB {c : List Bool} {i j : Nat} {v : Bool} : (c.set i v).getD j false = if i = j ∧ i < c.length then v else c.getD j false := by
 rw [List.getD_eq_getElem?_getD, List.getD_eq_getElem?_getD, List.getElem?_set]
 by_cases h : i = j
 ·subst h
  by_cases h2 : i < c.length
  ·simp [h2]
  ·simp [h2]
 ·simp [h]
theorem LvSound.set {t p : Lts} (ht : Valid t) (hp : Valid p) {c : List Bool} (h : LvSound t p c) {e : Edge} (he : e ∈ t.edges) {q : Nat} (hq : (q : Int) < p.states) (hb : lvB t p c e q = true) : LvSound t p (c.set (idx p e.src q) true) := by
 intro x y hx hy hc
 rw [getD_setB] at hc
 split at hc
 ·next hi =>
  obtain ⟨P, hP⟩ : ∃ P : Nat, (P : Int) = p.states := ⟨p.states.toNat, by have := hp.st0; omega⟩
  obtain ⟨i, hie, hek⟩ := List.mem_iff_getElem.1 he
  have hok := ht.edge i hie
  rw [hek] at hok
  obtain ⟨s, hs⟩ : ∃ s : Nat, (s : Int) = e.src := ⟨e.src.toNat, by have := hok.s0; omega⟩
  have h1 := hi.1
  rw [← hs, idx_nat hP, idx_nat hP] at h1
  have hsx : s = x ∧ q = y := by
   have h2 : (s * P + q) / P = (x * P + y) / P := by rw [h1]
   have hP1 : 0 < P := by omega
   rw [Nat.mul_comm s, Nat.mul_comm x, Nat.mul_add_div hP1, Nat.mul_add_div hP1, Nat.div_eq_of_lt (show q < P by omega), Nat.div_eq_of_lt (show y < P by omega)] at h2
   have h3 : s = x := by omega
   subst h3
   exact ⟨rfl, by omega⟩
  rw [← hsx.1, ← hsx.2, hs]
  unfold lvB at hb
  rw [Bool.or_eq_true, decide_eq_true_eq] at hb
  rcases hb with hb | hb
  ·exact .off he hb
  ·by_cases hlt : toState t p e q < 0
   ·exact .off he hlt
   ·have hr := toState_range (t := t) hp e (q := (q : Int)) (by omega) hq
    obtain ⟨z, hz⟩ : ∃ z : Nat, (z : Int) = toState t p e q := ⟨(toState t p e q).toNat, by omega⟩
    obtain ⟨d, hd⟩ : ∃ d : Nat, (d : Int) = e.dst := ⟨e.dst.toNat, by have := hok.d0; omega⟩
    refine .go he (by omega) ?_
    rw [← hz, ← hd] at hb ⊢
    exact h d z (by have := hok.d1; omega) (by omega) hb
 ·exact h x y hx hy hc
theorem LvSound.start (t p : Lts) (N : Nat) : LvSound t p (List.replicate N false) := fun x y _ _ h => by
 rw [List.getD_eq_getElem?_getD, List.getElem?_replicate] at h
 split at h <;> cases h

end Go.Proofs.YtmeibnhhlknbfaaGreatDoor

namespace Go.Proofs.YtmeibnhhlknbfaaGreatDoor
open Go Go.RowKit

/-- One of some states is marked with a state of the property. -/
def inV (p : Lts) (c : List Bool) (xs : List Int) (y : Int) : Bool := xs.any fun x => c.getD (idx p x y) false
theorem inV_succ (p : Lts) (c : List Bool) {xs : List Int} (y : Int) {k : Nat} (h : k < xs.length) : inV p c (xs.take (k + 1)) y = (inV p c (xs.take k) y || c.getD (idx p xs[k] y) false) := any_take xs _ k h
/-- The verdict of states of the model and a state of the property, or -1. -/
def vdL (p : Lts) (c d : List Bool) (xs : List Int) (y : Int) : Int := if y < 0 then 2 else if inV p c xs y = false then 1 else if inV p d xs y = false then 2 else 0

end Go.Proofs.YtmeibnhhlknbfaaGreatDoor

namespace Go.Proofs.YtmeibnhhlknbfaaGreatDoor
open Go Go.RowKit

structure Mon where
 sys : Lts
 vs : List Int
/-- A valid monitor. -/
structure MonOk (m : Mon) : Prop where
 valid : Valid m.sys
 single : Single m.sys
 len : (m.vs.length : Int) = m.sys.states
 low : ∀ v ∈ m.vs, 0 ≤ v ∧ v ≤ 2
 fin : ∀ e ∈ m.sys.edges, m.vs.getD e.src.toNat 0 = 0
/-- A monitor's slices. -/
structure MonIn (lo : Nat) (w : World) (lv ev vv : Value) (m : Mon) : Prop where
 labels : SliceK 1 encS lo w lv m.sys.labels
 edges : SliceK 3 encE lo w ev m.sys.edges
 marks : SliceK 1 encI lo w vv m.vs
theorem MonIn.below {lo : Nat} {w w' : World} {lv ev vv : Value} {m : Mon} (h : MonIn lo w lv ev vv m) (hb : Below w.heap.size w w') : MonIn lo w' lv ev vv m := ⟨h.labels.below hb, h.edges.below hb, h.marks.below hb⟩
/-- A monitor in memory. -/
def MonPtr (lo : Nat) (w : World) (b : Nat) (m : Mon) : Prop := LtsPtr lo w b m.sys ∧ ∃ vv, w.cell? ⟨b, 4, none⟩ = some vv ∧ SliceK 1 encI lo w vv m.vs
theorem MonPtr.below {lo : Nat} {w w' : World} {b : Nat} {m : Mon} (h : MonPtr lo w b m) (hb : Below w.heap.size w w') : MonPtr lo w' b m := by
 obtain ⟨h1, vv, h2, h3⟩ := h
 refine ⟨h1.below hb, vv, keeps hb ?_ h2, h3.below hb⟩
 obtain ⟨_, _, h, -⟩ := h1
 exact h
/-- A monitor's own slices. -/
def OwnMon (lo : Nat) (w : World) (lv ev vv : Value) (m : Mon) : Prop := OwnLts lo w lv ev m.sys ∧ w.ownsRow lo 2 1 vv m.vs.length (m.vs.map (Value.int .i64))
theorem OwnMon.below {lo : Nat} {w w' : World} {lv ev vv : Value} {m : Mon} (h : OwnMon lo w lv ev vv m) (hb : Below w.heap.size w w') : OwnMon lo w' lv ev vv m := ⟨h.1.below hb, owns_below h.2 hb⟩
theorem OwnMon.lower {lo lo' : Nat} {w : World} {lv ev vv : Value} {m : Mon} (h : OwnMon lo w lv ev vv m) (hl : lo' ≤ lo) : OwnMon lo' w lv ev vv m := ⟨h.1.lower hl, own_lower h.2 hl⟩
theorem OwnMon.turns {base lo hi : Nat} {w w' : World} {lv ev vv : Value} {m : Mon} (h : OwnMon base w lv ev vv m) (ht : Turns lo hi w w') (hb : hi ≤ base) : OwnMon base w' lv ev vv m :=
 ⟨h.1.turns ht hb, owns_turns h.2 ht (fun b e => .inr (Nat.le_trans hb (h.2.lt b e).1))⟩
theorem OwnMon.at {lo : Nat} {w : World} {lv ev vv : Value} {m : Mon} (h : OwnMon lo w lv ev vv m) : MonIn lo w lv ev vv m :=
 ⟨SliceK.of_owns (enc := encS) (e := 9) encS_len rfl (by rw [flat_encS]; exact h.1.1), SliceK.of_owns (enc := encE) (e := 59) encE_len rfl h.1.2, SliceK.of_owns (enc := encI) (e := 2) encI_len rfl (by rw [flat_encI]; exact h.2)⟩

end Go.Proofs.YtmeibnhhlknbfaaGreatDoor

namespace Go.Proofs.YtmeibnhhlknbfaaGreatDoor
open Go Go.RowKit


noncomputable section
def nxW (t p : Lts) (c d : List Bool) (r : WSt) (k : Nat) : Option WSt :=
 if vdL p c d r.1 r.2 = 0 then (if nextS t r.1 ((k : Int) + 1) = [] then none else some (nextS t r.1 ((k : Int) + 1), goTo p r.2 (t.labels.getD (k + 1) ByteArray.empty))) else none
def jobW (t p : Lts) (c d : List Bool) : WJob := ⟨(firstS t, p.initial), nxW t p c d, t.labels.length - 1⟩
end
/-- What a row is. -/
structure QW (t p : Lts) (r : WSt) : Prop where
 ne : r.1 ≠ []
 low : ∀ x ∈ r.1, 0 ≤ x ∧ x < t.states
 asc : r.1.Pairwise (· < ·)
 y0 : -1 ≤ r.2
 y1 : r.2 < p.states
theorem nxW_open {t p : Lts} {c d : List Bool} {r : WSt} {k : Nat} (h : vdL p c d r.1 r.2 = 0) (hn : nextS t r.1 ((k : Int) + 1) ≠ []) : nxW t p c d r k = some (nextS t r.1 ((k : Int) + 1), goTo p r.2 (t.labels.getD (k + 1) ByteArray.empty)) := by unfold nxW; rw [if_pos h, if_neg hn]
theorem nxW_empty {t p : Lts} {c d : List Bool} {r : WSt} {k : Nat} (hn : nextS t r.1 ((k : Int) + 1) = []) : nxW t p c d r k = none := by unfold nxW; rw [if_pos hn]; split <;> rfl
theorem nxW_shut {t p : Lts} {c d : List Bool} {r : WSt} (h : vdL p c d r.1 r.2 ≠ 0) (k : Nat) : nxW t p c d r k = none := by unfold nxW; rw [if_neg h]
theorem vdL_range (p : Lts) (c d : List Bool) (xs : List Int) (y : Int) : 0 ≤ vdL p c d xs y ∧ vdL p c d xs y ≤ 2 := by
 unfold vdL
 split
 ·decide
 ·split
  ·decide
  ·split <;> decide
theorem qw_next {t p : Lts} (hv : Valid t) (hp : Valid p) {cur : List Int} {k : Int} {q : Int} {l : ByteArray} (h : nextS t cur k ≠ []) : QW t p (nextS t cur k, goTo p q l) := by
 have hs := nextS_is hv cur k
 exact ⟨h, fun x hx => clos.inside hv (fun y hy => behindP_in hv hy) x ((hs.mem x).1 hx), hs.asc, (goTo_range hp q l).1, (goTo_range hp q l).2⟩
theorem qw_first {t p : Lts} (hv : Valid t) (hp : Valid p) : QW t p (firstS t, p.initial) := by
 have h := (DGood.start hv).rows (firstS t) (by simp [dAt])
 exact ⟨h.2.2, h.1, h.2.1, by have := hp.in0; show -1 ≤ p.initial; omega, hp.in1⟩
theorem qw_keep {t p : Lts} (hv : Valid t) (hp : Valid p) (c d : List Bool) : WKeep (jobW t p c d) (QW t p) := by
 refine ⟨qw_first hv hp, fun cur k r _ _ h => ?_⟩
 change nxW t p c d cur k = some r at h
 by_cases h0 : vdL p c d cur.1 cur.2 = 0
 ·by_cases hn : nextS t cur.1 ((k : Int) + 1) = []
  ·rw [nxW_empty hn] at h; cases h
  ·rw [nxW_open h0 hn] at h
   rw [← Option.some.inj h]
   exact qw_next hv hp hn
 ·rw [nxW_shut h0] at h; cases h
/-- The monitor found. -/
def monW (t p : Lts) (c d : List Bool) (st : WNet) : Mon := ⟨⟨st.rows.length, 0, t.labels, st.edges⟩, st.rows.map fun r => vdL p c d r.1 r.2⟩
/-- A call that makes the monitor, or tells that it is too large. -/
def RetMake (t p : Lts) (w : World) (e : Ending) (w' : World) : Prop :=
 Below w.heap.size w w' ∧ ∃ c d, LvIs t p c ∧ Rest t p (List.replicate (t.states.toNat * p.states.toNat) true) d ∧
  ((WFull (jobW t p c d) ∧ e = .returned (.tuple #[.agg #[.int .i64 0, .int .i64 0, .slice none 0 0, .slice none 0 0, .slice none 0 0], .bool false]))
   ∨ ∃ st lv ev vv, PWOk (jobW t p c d) st ∧ e = .returned (.tuple #[.agg #[.int .i64 st.rows.length, .int .i64 0, lv, ev, vv], .bool true]) ∧ OwnMon w.heap.size w' lv ev vv (monW t p c d st))

end Go.Proofs.YtmeibnhhlknbfaaGreatDoor

namespace Go.Proofs.YtmeibnhhlknbfaaGreatDoor
open Go Go.RowKit


theorem blk_own_ne' {w : World} {b : Nat} {cs : List Value} {t : TypeId} (h : Blk w b cs t) {base e size n : Nat} {v : Value} {xs : List Value} (ho : w.ownsRow base e size v n xs) (he : e ≠ t) : some b ≠ v.ownBlock := by
 rcases own_type_ne ho (show w.heap[b]? = some (.cells cs.toArray t (0, 0)) from h) he with h | h
 ·rw [h]; simp
 ·exact fun e => h e.symm
end Go.Proofs.YtmeibnhhlknbfaaGreatDoor

namespace Go.Proofs.YtmeibnhhlknbfaaGreatDoor
open Go Go.RowKit


/-- A list in blocks that are not touched. -/
theorem own_under {B : Nat} {w w' : World} {base e size n : Nat} {v : Value} {xs : List Value} (h : w.ownsRow base e size v n xs) (hb : Below B w w') (hlt : ∀ b, v.ownBlock = some b → b < B) : w'.ownsRow base e size v n xs := by
 refine ⟨h.1, ?_⟩
 rcases h.2 with hn | ⟨g, cap, cur, rfl, hg, hgg, rest⟩
 ·exact .inl hn
 ·exact .inr ⟨g, cap, cur, rfl, hg, (hb.block g (hlt g rfl)).trans hgg, rest⟩
/-- Two lists lie in different blocks. -/
def FarB (a b : Value) : Prop := ∀ x, a.ownBlock = some x → b.ownBlock ≠ some x
theorem FarB.symm {a b : Value} (h : FarB a b) : FarB b a := fun x hx hy => h x hy hx
theorem FarB.or {a b : Value} (h : FarB a b) : a.ownBlock = none ∨ a.ownBlock ≠ b.ownBlock := by
 cases e : a.ownBlock with
 | none => exact .inl rfl
 | some x => exact .inr fun k => h x e k.symm
theorem FarB.none (b : Value) (n c : Nat) : FarB (.slice none n c) b := fun x hx => by cases hx
theorem FarB.new {a b b' : Value} {N : Nat} (h : FarB a b) (hlt : ∀ x, a.ownBlock = some x → x < N) (hb : b'.ownBlock = b.ownBlock ∨ b'.ownBlock = some N) : FarB a b' := by
 intro x hx hy
 rcases hb with e | e
 ·exact h x hx (by rw [← e]; exact hy)
 ·rw [e] at hy
  injection hy with hy
  have := hlt x hx
  omega
theorem Blk.kept {w w' : World} {b : Nat} {cs : List Value} {t : TypeId} {row : Option Nat} (h : Blk w b cs t) (hg : w.grownBy w' row) (hne : some b ≠ row) : Blk w' b cs t := (hg.block b h.lt hne).trans h
/-- A monitor's box filled: the system's four cells, or all five. -/
theorem own4M {w : World} {b : Nat} {x0 x1 x2 x3 x4 v0 v1 v2 v3 : Value} (hb : Blk w b [x0, x1, x2, x3, x4] 30) {base e size n : Nat} {v : Value} {xs : List Value} (h : w.ownsRow base e size v n xs) (he : e ≠ 30) :
  ((((w.setCell ⟨b, 0, none⟩ v0).setCell ⟨b, 1, none⟩ v1).setCell ⟨b, 2, none⟩ v2).setCell ⟨b, 3, none⟩ v3).ownsRow base e size v n xs :=
 own_sets (own_sets (own_sets (own_sets h hb he 0 _) (hb.set 0 _) he 1 _) ((hb.set 0 _).set 1 _) he 2 _) (((hb.set 0 _).set 1 _).set 2 _) he 3 _
theorem own5M {w : World} {b : Nat} {x0 x1 x2 x3 x4 v0 v1 v2 v3 v4 : Value} (hb : Blk w b [x0, x1, x2, x3, x4] 30) {base e size n : Nat} {v : Value} {xs : List Value} (h : w.ownsRow base e size v n xs) (he : e ≠ 30) :
  (((((w.setCell ⟨b, 0, none⟩ v0).setCell ⟨b, 1, none⟩ v1).setCell ⟨b, 2, none⟩ v2).setCell ⟨b, 3, none⟩ v3).setCell ⟨b, 4, none⟩ v4).ownsRow base e size v n xs :=
 own_sets (own4M hb h he) ((((hb.set 0 _).set 1 _).set 2 _).set 3 _) he 4 _

end Go.Proofs.YtmeibnhhlknbfaaGreatDoor

namespace Go.Proofs.YtmeibnhhlknbfaaGreatDoor
open Go Go.RowKit


theorem OwnIntss.set1 {eo ei lo : Nat} {w : World} {v : Value} {vs : List Value} {xss : List (List Int)} (h : OwnIntss eo ei lo w v vs xss) {b : Nat} {cs : List Value} {t : TypeId} (hb : Blk w b cs t) (he : eo ≠ t) (hi : ei ≠ t) (i : Nat) (u : Value) : OwnIntss eo ei lo (w.setCell ⟨b, i, none⟩ u) v vs xss :=
 h.kept (grown_setCell w ⟨b, i, none⟩ u) (own_type_ne h.2.1 hb he) (fun j hj => own_type_ne (h.2.2.1 j hj (by rw [← h.1]; exact hj)) hb hi)
end Go.Proofs.YtmeibnhhlknbfaaGreatDoor
