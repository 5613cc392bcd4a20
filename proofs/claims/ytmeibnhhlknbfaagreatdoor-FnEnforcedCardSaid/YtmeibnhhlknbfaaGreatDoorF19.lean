/-
  The reference's l30Make: the monitor of a model and a property.
  The source of a drawer; the length of what is drawn from; two lists of texts.
-/
import Derived.Test.YtmeibnhhlknbfaaGreatDoorF17
import Derived.Test.YtmeibnhhlknbfaaGreatDoorF18
import Derived.Test.YtmeibnhhlknbfaaGreatDoorF14
import Derived.Test.YtmeibnhhlknbfaaGreatDoorF7
import Derived.Maps.AppendAt
import Derived.Handy
import Derived.Test.YtmeibnhhlknbfaaGreatDoorF1
import Derived.Test.YtmeibnhhlknbfaaGreatDoorF3
namespace Go.Proofs.YtmeibnhhlknbfaaGreatDoor
open Go Go.RowKit


theorem smk_results {w : World} {b : Nat} {v0 v1 v2 v3 v4 : Value} {tmps : Array Value} (hc : tmps.getD 4 undef = .pointer (some ⟨b, 0, none⟩)) (hb : Blk w b [v0, v1, v2, v3, v4] 30) :
  (results Tryz.f21 tmps).run Tryz.prog w = .ok (.tuple #[.agg #[v0, v1, v2, v3, v4], tmps.getD 5 undef]) w := by
 have h0 := hb.cell 0 rfl
 have h1 := hb.cell 1 rfl
 have h2 := hb.cell 2 rfl
 have h3 := hb.cell 3 rfl
 have h4 := hb.cell 4 rfl
 simp only [Array.getD_eq_getD_getElem?] at hc
 simp [results, Tryz.results21, go_sem, hc, h0, h1, h2, h3, h4, Result.andThen]
theorem info_int64K : (Tryz.prog.info? 2).map (fun i => (i.zero, i.size, i.bytes)) = some (some (.int .i64 0), 1, 8) := by kernel_rfl
theorem qw_len {t p : Lts} {r : WSt} (hv : Valid t) (h : QW t p r) : r.1.length ≤ 40 := by
 refine few_states ?_ h.low hv.st1
 rw [List.nodup_iff_pairwise_ne]
 exact h.asc.imp fun h => by omega
theorem fst_len (rs : List WSt) : (rs.map Prod.fst).length = rs.length := List.length_map _
theorem snd_len (rs : List WSt) : (rs.map Prod.snd).length = rs.length := List.length_map _
theorem own_someK {w : World} {base e size n : Nat} {v : Value} {xs : List Value} (h : w.ownsRow base e size v n xs) (hn : 0 < n) : ∃ g c, v = .slice (some ⟨g, 0, none⟩) n c ∧ base ≤ g ∧ g < w.heap.size := by
 rcases h.2 with ⟨h1, h0⟩ | ⟨g, cap, cur, h1, h2, hg, -⟩
 ·omega
 ·exact ⟨g, cap, h1, h2, (Array.getElem?_eq_some_iff.1 hg).1⟩
set_option maxRecDepth 100000 in
set_option maxHeartbeats 8000000 in
theorem l30Make_any (bt bp lo : Nat) (t p : Lts) (w : World) (hvt : Valid t) (hvp : Valid p) (ht : LtsPtr lo w bt t) (hp : LtsPtr lo w bp p) :
  Calls Tryz.prog 21 #[.pointer (some ⟨bt, 0, none⟩), .pointer (some ⟨bp, 0, none⟩)] w (RetMake t p w) := by
 have VT := Lib.hid hvt
 have VP := Lib.hid hvp
 have HT := Lib.hid ht
 have HP := Lib.hid hp
 have hlpos := hvt.labels.pos
 have hlmost := hvt.labels.most
 have hst40 := hvt.st1
 have hps40 := hvp.st1
 have hst0 := hvt.st0
 have hps0 := hvp.st0
 obtain ⟨_, _, hbp, -, p1, -, -, -, -⟩ := hp
 obtain ⟨lv, ev, hbt, -, -, q2, -, hls, -⟩ := ht
 obtain ⟨al, cl, rfl, hln, hlc, hlrow⟩ := hls
 have HQ2 := Lib.hid q2
 have HP1 := Lib.hid p1
 have HLR := Lib.hid hlrow
 obtain ⟨rb, hrb⟩ : ∃ rb, rb = w.heap.size := ⟨_, rfl⟩
 obtain ⟨w0, hw0⟩ : ∃ w0, w0 = w.alloc (.cells #[.int .i64 0, .int .i64 0, .slice none 0 0, .slice none 0 0, .slice none 0 0] 30) := ⟨_, rfl⟩
 have hb0 : Below w.heap.size w w0 := by rw [hw0]; exact (Below.refl _ _).alloc (Nat.le_refl _) _
 have hX0 : Blk w0 rb [.int .i64 0, .int .i64 0, .slice none 0 0, .slice none 0 0, .slice none 0 0] 30 := by rw [hw0, hrb]; exact Blk.new w _ _
 have hs0 : w0.heap.size = rb + 1 := by rw [hw0, hrb]; simp
 have HC1 := Lib.hid (l30Leave_any bt bp lo t p w0 hvt hvp (HT.out.below hb0) (HP.out.below hb0))
 obtain ⟨LN, hLN⟩ : ∃ LN, LN = t.labels.length := ⟨_, rfl⟩
 rw [← hLN] at hlpos hlmost hln HQ2
 have HLN := Lib.hid hLN
 have HB0 := Lib.hid hb0
 have HX0 := Lib.hid hX0
 have HW0 := Lib.hid hw0
 have HRB := Lib.hid hrb
 have HS0 := Lib.hid hs0
 have hbt0 : bt < w0.heap.size := by omega
 have hbp0 : bp < w0.heap.size := by omega
 have hrw : w.heap.size ≤ rb := by omega
 have HST := Lib.hid (And.intro hst0 (And.intro hst40 (And.intro hps0 hps40)))
 clear hvt hvp q2 p1 hlrow hb0 hX0 hw0 hrb hs0 hLN hst0 hst40 hps0 hps40
 go_enter Tryz.func21, Tryz.ntmps21
 go_wp2_with fail
 rw [← HW0.out]
 try rw [← HRB.out]
 refine Calls.mono HC1.out ?_
 rintro e1 w1 ⟨c, rfl, hb1, hg1, ho1, hlv⟩
 have HC2 := Lib.hid (l30Stay_any bt bp lo t p w1 VT.out VP.out ((HT.out.below HB0.out).below hb1) ((HP.out.below HB0.out).below hb1))
 have HB1 := Lib.hid hb1
 have HLV := Lib.hid hlv
 have HO1 := Lib.hid ho1
 have HGE := Lib.hid hg1
 obtain ⟨g1, hg1e⟩ : ∃ g1, g1 = w0.heap.size := ⟨_, rfl⟩
 rw [← hg1e] at HO1 HGE ⊢
 have HG1 := Lib.hid hg1e
 obtain ⟨N, hN⟩ : ∃ N, N = c.length := ⟨_, rfl⟩
 rw [← hN] at HO1 ⊢
 have HN := Lib.hid hN
 clear hb1 hg1 ho1 hlv hg1e hN HC1
 go_wp2_with fail
 refine Calls.mono HC2.out ?_
 rintro e2 w2 ⟨d, rfl, hb2, hg2, ho2, hdl, hrest⟩
 have hdN : d.length = N := by rw [HN.out, HLV.out.1, hdl]
 have HC3 := Lib.hid (l12First_any bt lo t w2 VT.out (((HT.out.below HB0.out).below HB1.out).below hb2))
 have HB2 := Lib.hid hb2
 have HRS := Lib.hid hrest
 have HDL := Lib.hid hdl
 rw [hdN] at ho2 ⊢
 have HO2 := Lib.hid ho2
 obtain ⟨g2, hg2e⟩ : ∃ g2, g2 = w1.heap.size := ⟨_, rfl⟩
 rw [← hg2e] at HO2 hg2 ⊢
 have HG2 := Lib.hid hg2e
 have HGF := Lib.hid hg2
 have HDN := Lib.hid hdN
 clear hb2 hg2 ho2 hdl hrest hg2e hdN HC2
 go_wp2_with fail
 refine Calls.mono HC3.out ?_
 rintro e3 w3 ⟨v3, rfl, hb3, ho3⟩
 obtain ⟨B, hB⟩ : ∃ B, B = w2.heap.size := ⟨_, rfl⟩
 have hb3' : Below B w2 w3 := by rw [hB]; exact hb3
 rw [← hB] at ho3
 have hw23 : w0.heap.size ≤ w1.heap.size := HB1.out.size
 have hw12 : w1.heap.size ≤ w2.heap.size := HB2.out.size
 have HB02 : Hid (Below w0.heap.size w0 w2) := HB1.out.trans (HB2.out.mono hw23)
 have HBw2 : Hid (Below w.heap.size w w2) := HB0.out.trans (HB02.out.mono HB0.out.size)
 have hg1B : g1 < B := by have := HGE.out; omega
 have hg2B : g2 < B := by rw [hB]; exact HGF.out
 have hrbB : rb < B := by have := HS0.out; omega
 have hbtB : bt < B := by omega
 have hbpB : bp < B := by omega
 have hwB : w.heap.size ≤ B := by omega
 have HO1B : Hid (∀ w', Below B w2 w' → w'.ownsRow 0 4 1 (.slice (some ⟨g1, 0, none⟩) N N) N (c.map Value.bool)) := fun w' hb => own_lower (own_under (owns_below HO1.out HB2.out) hb (fun b e => by cases e; exact hg1B)) (Nat.zero_le _)
 have HO2B : Hid (∀ w', Below B w2 w' → w'.ownsRow 0 4 1 (.slice (some ⟨g2, 0, none⟩) N N) N (d.map Value.bool)) := fun w' hb => own_lower (own_under HO2.out hb (fun b e => by cases e; exact hg2B)) (Nat.zero_le _)
 have HX2 := Lib.hid (HX0.out.below HB02.out)
 have HT2 := Lib.hid (fun w' (hb : Below B w2 w') => (HT.out.below HBw2.out).below (show Below w2.heap.size w2 w' by rw [← hB]; exact hb))
 have HP2 := Lib.hid (fun w' (hb : Below B w2 w') => (HP.out.below HBw2.out).below (show Below w2.heap.size w2 w' by rw [← hB]; exact hb))
 have HQ22 : Hid (∀ w', Below B w2 w' → w'.cell? ⟨bt, 2, none⟩ = some (.slice al LN cl)) := fun w' hb => by
  have h1 := keeps HBw2.out hbt HQ2.out
  exact (hb.cell (p := ⟨bt, 2, none⟩) hbtB).trans h1
 have hs3 : B ≤ w3.heap.size := by rw [hB]; exact hb3.size
 have hw3s : w3.heap.size ≥ B := hs3
 have p1 := (hb3'.cell (p := ⟨bp, 1, none⟩) hbpB).trans (keeps HBw2.out hbp HP1.out)
 have hbp3 : bp < w3.heap.size := by omega
 obtain ⟨y0, hy0⟩ : ∃ y0, y0 = p.initial := ⟨_, rfl⟩
 rw [← hy0] at p1
 obtain ⟨W, hW⟩ : ∃ W, W = (((w3.alloc (.cells #[v3] 28)).alloc (.cells #[.int .i64 y0] 2)).alloc (.cells #[.int .i64 0, .int .i64 0, .slice none 0 0, .slice none 0 0, .slice none 0 0] 30)).alloc (.cells #[] 59) := ⟨_, rfl⟩
 have hbW : Below w3.heap.size w3 W := by rw [hW]; exact ((((Below.refl _ _).alloc (Nat.le_refl _) _).alloc (by simp) _).alloc (by simp; omega) _).alloc (by simp; omega) _
 have hWM := WMem.start (B := B) (B2 := B) (Nat.le_refl B) hs3 ho3 hW
 obtain ⟨J, hJ⟩ : ∃ J, J = jobW t p c d := ⟨_, rfl⟩
 have HKP : Hid (WKeep J (QW t p)) := by unfold Hid; rw [hJ]; exact qw_keep VT.out VP.out c d
 have HJM : Hid (J.m = LN - 1) := by unfold Hid; rw [hJ, HLN.out]; rfl
 have HNX : Hid (∀ cur k, J.nx cur k = nxW t p c d cur k) := fun cur k => by rw [hJ]; rfl
 have HFI : Hid (pwAt J 0 = ⟨[(firstS t, y0)], []⟩) := by unfold Hid; rw [hJ, hy0]; rfl
 have HJ := Lib.hid hJ
 obtain ⟨a3, c3, rfl, -, -⟩ := owns_slice ho3
 obtain ⟨G, hG⟩ : ∃ G, G = w3.heap.size := ⟨_, rfl⟩
 rw [← hG] at hWM
 obtain ⟨ob, hob⟩ : ∃ ob, ob = G + 1 + 1 := ⟨_, rfl⟩
 have HWM : Hid (WMem B ob W (.slice (some ⟨G, 0, none⟩) 1 1) (.slice (some ⟨G + 1, 0, none⟩) 1 1) (.slice (some ⟨ob + 1, 0, none⟩) 0 0) (.slice none 0 0) [.slice a3 (firstS t).length c3] [firstS t] [y0] [] []) := by unfold Hid; rw [hob]; exact hWM
 have HBW : Hid (Below B w2 W) := hb3'.trans (hbW.mono hs3)
 have HWW := Lib.hid hW
 have HGG := Lib.hid hG
 have HOB := Lib.hid hob
 have HBB := Lib.hid hB
 have hobB : B ≤ ob := by omega
 obtain ⟨F, hF⟩ : ∃ F, F = (firstS t).length := ⟨_, rfl⟩
 rw [← hF] at HWM HWW ⊢
 obtain ⟨ie, hie, hze0, hze1, hze2⟩ := info_parts info_edge19
 obtain ⟨i1, hi1, hz10, hz11, hz12⟩ := info_parts info_int64K
 obtain ⟨i0, hi, hz0, hz1, hz2⟩ := info_parts info_ints19
 have hrbw : rb < w3.heap.size := by omega
 clear hb3 hb3' ho3 hw23 hw12 hW hbW hWM hJ hG hob hB HC3 hF HO1 HO2 HB0 HB1 HB2 HX0 hy0
 go_wp2
 rw [← HWW.out]
 try rw [← HGG.out]
 try rw [← HOB.out]
 clear p1
 go_loopw [8, 9, 11, 12] (fun vr va ve i wr => ∃ (n : Nat) (vv : Value) (vs : List Value), i = .int .i64 n ∧ WCome J n ∧ WSmall (pwAt J n) ∧ Below B w2 wr ∧ WMem B ob wr vr va ve vv vs ((pwAt J n).rows.map Prod.fst) ((pwAt J n).rows.map Prod.snd) (pwAt J n).edges (vdsTo p c d (pwAt J n).rows n)) (fun _ _ _ i _ => 64 - (intOf i).toNat)
 case atStart =>
  refine ⟨0, .slice none 0 0, [.slice a3 F c3], rfl, WCome.zero J, ?_, HBW.out, ?_⟩
  ·rw [HFI.out]; exact ⟨by simp, by simp⟩
  ·rw [HFI.out]; exact HWM.out
 case round =>
  clear HWM HBW
  obtain ⟨n, vv, vs, rfl, hcome, hsm, hbl, hmem⟩ := hrel
  obtain ⟨wC, rfl⟩ : ∃ wC : World, wC = wr := ⟨_, rfl⟩
  have HCO := Lib.hid hcome
  have HSM := Lib.hid hsm
  have HBL := Lib.hid hbl
  have HG := Lib.hid (WGood.at HKP.out n)
  have hsr := hsm.1
  have hnR := hcome.len
  have hszC : B ≤ wC.heap.size := by rw [HBB.out]; exact hbl.size
  obtain ⟨S0, hS0⟩ : ∃ S0, S0 = pwAt J n := ⟨_, rfl⟩
  rw [← hS0] at HSM HG hsr hmem hnR
  have HS0 := Lib.hid hS0
  obtain ⟨R, hR⟩ : ∃ R, R = S0.rows.length := ⟨_, rfl⟩
  obtain ⟨E, hE⟩ : ∃ E, E = S0.edges.length := ⟨_, rfl⟩
  have hvl : vs.length = R := by rw [hmem.rows.1, fst_len, hR]
  have hyl : (S0.rows.map Prod.snd).length = R := by rw [snd_len, hR]
  have hdl : (vdsTo p c d S0.rows n).length = n := vdsTo_len p c d hnR
  obtain ⟨a8, c8, rfl, -, -⟩ := owns_slice hmem.rows.2.1
  obtain ⟨a9, c9, rfl, -, -⟩ := owns_slice hmem.atq
  obtain ⟨ae, ce, rfl, -, -⟩ := owns_slice hmem.ed
  obtain ⟨av, cv, rfl, -, -⟩ := owns_slice hmem.vd
  rw [hvl, hyl, ← hE, hdl] at hmem
  rw [hvl, hyl, ← hE]
  rw [← hR] at hsr hnR
  have HR := Lib.hid hR
  have HE := Lib.hid hE
  have HME := Lib.hid hmem
  clear hcome hsm hbl hS0 hR hE hmem hyl
  by_cases hlt : n < R
  ·have hlS : n < S0.rows.length := by rw [← HR.out]; exact hlt
   obtain ⟨cs, y, hcur⟩ : ∃ cs y, S0.rows[n]? = some (cs, y) := ⟨_, _, List.getElem?_eq_getElem hlS⟩
   have hget := (List.getElem?_eq_some_iff.1 hcur).2
   have HQW := Lib.hid (HG.out.rows _ (List.mem_of_getElem? hcur))
   have hcl : cs.length ≤ 40 := qw_len VT.out HQW.out
   obtain ⟨b8, c8', u8, e8, hb8, hc8, -, hu8⟩ := HME.out.rows.rowAt (n := n) (by rw [fst_len]; exact hlS)
   simp only [Value.slice.injEq] at e8
   obtain ⟨rfl, hq8, rfl⟩ := e8
   clear hq8
   rw [List.getElem_map, hget] at hu8
   have h9 := HME.out.atq
   obtain ⟨b9, c9', e9, -, hb9⟩ := own_someK h9 (by rw [snd_len]; omega)
   simp only [Value.slice.injEq] at e9
   obtain ⟨rfl, hq9, rfl⟩ := e9
   clear hq9
   rw [snd_len, ← HR.out] at h9
   have hc9 := cell_num h9 hlt
   have hy9 : (S0.rows.map Prod.snd).getD n 0 = y := by rw [List.getD_eq_getElem?_getD, List.getElem?_map, hcur]; rfl
   rw [hy9] at hc9
   have HCUR := Lib.hid hcur
   have HU8 := Lib.hid hu8
   obtain ⟨vd, hvd⟩ : ∃ vd, vd = vdL p c d cs y := ⟨_, rfl⟩
   have HVD := Lib.hid hvd
   have hvr := vdL_range p c d cs y
   rw [← hvd] at hvr
   have HVC : Hid (∀ l : Later wC, Calls Tryz.prog 43 #[.pointer (some ⟨bp, 0, none⟩), .slice (some ⟨g1, 0, none⟩) N N, .slice (some ⟨g2, 0, none⟩) N N, u8, .int .i64 y] l.w fun e w' => e = .returned (.int .i64 vd) ∧ Below l.w.heap.size l.w w') := fun l => by
    have hb := HBL.out.trans (l.h.mono hszC)
    rw [hvd]
    refine l30Verdict_any bp lo B g1 g2 N 0 p c d u8 cs y l.w VP.out (HP2.out _ hb) (HO1B.out _ hb) (HO2B.out _ hb) (HU8.out.below l.h) (fun x hx => ?_) HQW.out.y1 (by omega) ?_
    ·have hlow := HQW.out.low x hx
     refine ⟨hlow.1, ?_⟩
     have h1 : N = t.states.toNat * p.states.toNat := by rw [HN.out, HLV.out.1]
     rw [h1, ← Nat.succ_mul]
     exact Nat.mul_le_mul_right _ (by omega)
    ·have h1 : N = t.states.toNat * p.states.toNat := by rw [HN.out, HLV.out.1]
     rw [h1]
     have h2 : t.states.toNat ≤ 40 := by have := HST.out; omega
     have h3 : p.states.toNat ≤ 40 := by have := HST.out; omega
     exact Nat.le_trans (Nat.mul_le_mul h2 h3) (by decide)
   have l8 := later_cell hb8 hc8
   have l9 := later_cell hb9 hc9
   have hni : (n : Int) < (R : Int) := by omega
   clear hcur hget hu8 h9 hc9 hc8 hvd hlS
   go_wp2
   refine wp_region_later (by kernel_rfl) (by kernel_rfl) ?_
   repeat (go_big_quiet_step ((go_at_call 43; exact later_call (HVC.out _))))
   refine wpQuiet_nil ?_
   intro _ hw9
   obtain ⟨nl, hw8⟩ := hw9
   subst hw8
   have HB4 := Lib.hid (HBL.out.trans (nl.h.mono hszC))
   have HM4 := Lib.hid (HME.out.below nl.h)
   obtain ⟨wD, hwD⟩ : ∃ wD, wD = nl.w := ⟨_, rfl⟩
   rw [← hwD] at HB4 HM4 ⊢
   have hszD : B ≤ wD.heap.size := by have := HB4.out.size; rw [HBB.out]; exact this
   clear hwD l8 l9 HME HBL HVC
   have cob := HM4.out.blk.cell 4 rfl
   have hobw := HM4.out.blk.lt
   have HVROW : Hid (wD.ownsRow B 2 1 (.slice av n cv) n ((vdsTo p c d S0.rows n).map (Value.int .i64))) := by
    have h := HM4.out.vd
    rw [hdl] at h
    exact h
   have hfz := HM4.out.blk.frozen 4
   have hneo : some ob ≠ (Value.slice av n cv).ownBlock := blk_own_ne' HM4.out.blk HVROW.out (by decide)
   go_wp2_with (at_builtin; refine wpList_append_own_at _ rfl _ _ 28 rfl B 2 i1 (.int .i64 0) 1 8 Tryz.underlying28 hi1 hz10 hz11 hz12 rfl (by decide) _ _ _ rfl (HVROW.out.alloc _) ⟨wD.heap.size, 0, none⟩ 1 1 [.int .i64 vd] rfl rfl ?c1 ?c2 ?c3 ?c4 ?c5 ?_)
   case c1 => exact (cell_one_new _ _ _)
   case c2 => first | rfl | (intro u hu; simp at hu; subst hu; rfl)
   case c3 => first | omega | (simp [maxLen]; omega)
   case c4 => first | omega | (simp; omega)
   case c5 => first | omega | (simp; omega)
   intro v5 w5 ho5 hg5 _ ha5
   have hal5 : Below wD.heap.size wD (wD.alloc (.cells #[.int .i64 vd] 2)) := (Below.refl _ _).alloc (Nat.le_refl _) _
   obtain ⟨a5, c5, rfl, -, -⟩ := owns_slice ho5
   have hM5 := HM4.out.pushV (x := vd) hal5 hg5 (by rw [hdl]; exact ho5) (by simpa using ha5)
   rw [HVD.out, ← vdsTo_succ p c d HCUR.out] at hM5
   have cob5 : w5.cell? ⟨ob, 4, none⟩ = some (.slice av n cv) := (hg5.cell_far ⟨ob, 4, none⟩ (by simp; omega) hneo).trans (keeps hal5 hobw cob)
   have fob5 : w5.frozen? ⟨ob, 4, none⟩ = false := (hg5.frozen_far ⟨ob, 4, none⟩ (by simp; omega) hneo).trans ((hal5.frozen (p := ⟨ob, 4, none⟩) hobw).trans hfz)
   have HB5 : Hid (Below B w2 (w5.setCell ⟨ob, 4, none⟩ (.slice a5 (n + 1) c5))) := ((HB4.out.trans (hal5.mono hszD)).grown hg5 (by simp; omega) (fun b e => (HVROW.out.lt b e).1)).setCell hobB _
   have HM5 := Lib.hid hM5
   clear ho5 hg5 ha5 hM5 HM4 HVROW cob hfz hneo hal5
   go_wp2
   obtain ⟨w6, hw6⟩ : ∃ w6, w6 = w5.setCell ⟨ob, 4, none⟩ (.slice a5 (n + 1) c5) := ⟨_, rfl⟩
   rw [← hw6] at HB5 HM5 ⊢
   clear hw6 cob5 fob5 hobw
   go_loopw [8, 9, 11, 14] (fun vr va ve k wr => ∃ (j q : Nat) (vs : List Value), q = j + 1 ∧ k = .int .i64 q ∧ q ≤ LN ∧ (vd ≠ 0 → j = 0) ∧ WSmall (pwmid J n (cs, y) S0 j) ∧ Below B w2 wr ∧ WMem B ob wr vr va ve (.slice a5 (n + 1) c5) vs ((pwmid J n (cs, y) S0 j).rows.map Prod.fst) ((pwmid J n (cs, y) S0 j).rows.map Prod.snd) (pwmid J n (cs, y) S0 j).edges (vdsTo p c d S0.rows (n + 1))) (fun _ _ _ k _ => 64 - (intOf k).toNat)
   case atStart => exact ⟨0, 1, vs, rfl, rfl, by omega, fun _ => rfl, HSM.out, HB5.out, HM5.out⟩
   case round =>
    clear HB5 HM5 HSM
    obtain ⟨j, q, vs2, hq, rfl, hql, hv0, hsm, hbl, hmem⟩ := hrel
    obtain ⟨wC2, rfl⟩ : ∃ wC2 : World, wC2 = wr := ⟨_, rfl⟩
    have HBL := Lib.hid hbl
    have HSM := Lib.hid hsm
    have hszr : B ≤ wC2.heap.size := by rw [HBB.out]; exact hbl.size
    have q2 := HQ22.out _ hbl
    have hbtw : bt < wC2.heap.size := by omega
    have hnS : n < S0.rows.length := by rw [← HR.out]; exact hlt
    have hcm := pwmid_rowAt (G := J) HCUR.out j
    have hM2 := hsm.1
    have hM3 := hsm.2
    obtain ⟨M, hM⟩ : ∃ M, M = pwmid J n (cs, y) S0 j := ⟨_, rfl⟩
    rw [← hM] at HSM hcm hmem hM2 hM3
    have HM := Lib.hid hM
    obtain ⟨R2, hR2⟩ : ∃ R2, R2 = M.rows.length := ⟨_, rfl⟩
    obtain ⟨E2, hE2⟩ : ∃ E2, E2 = M.edges.length := ⟨_, rfl⟩
    have hvl2 : vs2.length = R2 := by rw [hmem.rows.1, fst_len, hR2]
    obtain ⟨a8, c8, rfl, -, -⟩ := owns_slice hmem.rows.2.1
    obtain ⟨a9, c9, rfl, -, -⟩ := owns_slice hmem.atq
    obtain ⟨ae, ce, rfl, -, -⟩ := owns_slice hmem.ed
    rw [hvl2, snd_len, ← hE2, ← hR2] at hmem
    rw [hvl2, snd_len, ← hE2, ← hR2]
    have hnm : n < R2 := by rw [hR2]; exact (List.getElem?_eq_some_iff.1 hcm).1
    have hce := (List.getElem?_eq_some_iff.1 hcm).2
    rw [← hR2] at hM2
    rw [← hE2] at hM3
    have HR2 := Lib.hid hR2
    have HE2 := Lib.hid hE2
    have HME := Lib.hid hmem
    have HQJ := Lib.hid hq
    obtain ⟨b8, c8', u8, e8, hb8, hc8, -, hu8⟩ := hmem.rows.rowAt (n := n) (by rw [fst_len, ← hR2]; exact hnm)
    simp only [Value.slice.injEq] at e8
    obtain ⟨rfl, hq8, rfl⟩ := e8
    clear hq8
    rw [List.getElem_map, hce] at hu8
    have h9 := hmem.atq
    obtain ⟨b9, c9', e9, -, hb9⟩ := own_someK h9 (by rw [snd_len, ← hR2]; omega)
    simp only [Value.slice.injEq] at e9
    obtain ⟨rfl, hq9, rfl⟩ := e9
    clear hq9
    rw [snd_len, ← hR2] at h9
    have HROW9 := Lib.hid h9
    have hc9 := cell_num h9 hnm
    have hy9 : (M.rows.map Prod.snd).getD n 0 = y := by rw [List.getD_eq_getElem?_getD, List.getElem?_map, hcm]; rfl
    rw [hy9] at hc9
    have HU8 := Lib.hid hu8
    clear hsm hM hcm hce hmem hbl hR2 hE2 hq hu8 h9 hy9
    by_cases hqL : q < LN
    ·by_cases hvd0 : vd = 0
     ·subst hvd0
      have HGM := Lib.hid (HG.out.mid HKP.out HCUR.out j (by have := HQJ.out; have := HJM.out; omega))
      rw [← HM.out] at HGM
      have hqi : ((q : Nat) : Int) = (j : Int) + 1 := by have := HQJ.out; omega
      have HN2 := Lib.hid (l12Next_any bt lo B t u8 cs q wC2 VT.out (HT2.out _ HBL.out) HU8.out)
      obtain ⟨nx, hnx⟩ : ∃ nx, nx = nextS t cs ((j : Int) + 1) := ⟨_, rfl⟩
      rw [hqi, ← hnx] at HN2
      have HNX2 := Lib.hid hnx
      have HQI := Lib.hid hqi
      have HN3 : Hid (Calls Tryz.prog 44 #[.pointer (some ⟨bt, 0, none⟩), u8, .int .i64 (q : Int)] wC2 (MadeNums nx wC2)) := by unfold Hid; rw [hqi]; exact HN2.out
      clear hnx hqi HN2
      go_wp2_with fail
      refine Calls.mono HN3.out ?_
      rintro e2 w5 ⟨v2, rfl, hb5, ho5⟩
      have HB5 := Lib.hid (HBL.out.trans (hb5.mono hszr))
      have HM5 := Lib.hid (HME.out.below hb5)
      have hsz5 : wC2.heap.size ≤ w5.heap.size := hb5.size
      have HBC := Lib.hid hb5
      have HRW := Lib.hid ho5
      have HS5 := Lib.hid (SliceK.of_owns (enc := encI) encI_len rfl (by rw [flat_encI]; exact ho5))
      have hc9' := keeps hb5 hb9 hc9
      have hc8' := keeps hb5 hb8 hc8
      have q2' := keeps hb5 hbtw q2
      obtain ⟨a2, c2, rfl, -, -⟩ := owns_slice ho5
      clear hb5 ho5 HN3 HBL q2 hc8 hc9 HU8 HROW9
      by_cases hem : nx = []
      ·subst hem
       have HSTP : Hid (pwmid J n (cs, y) S0 (j + 1) = M) := by
        unfold Hid
        rw [pwmid_succ, ← HM.out]
        exact pwstep_none (by rw [HNX.out]; exact nxW_empty HNX2.out.symm)
       go_wp2
       go_roundw
       case rel =>
        refine ⟨j + 1, q + 1, vs2, by have := HQJ.out; omega, by go_num, by omega, fun h => absurd rfl h, ?_, HB5.out, ?_⟩
        ·rw [HSTP.out]; exact HSM.out
        ·rw [HSTP.out]; exact HM5.out
       case measure => simp [intOf]; omega
      ·have HNE : Hid (nextS t cs ((j : Int) + 1) ≠ []) := by unfold Hid; rw [← HNX2.out]; exact hem
       have hnz : nx.length ≠ 0 := fun h => hem (List.eq_nil_of_length_eq_zero h)
       obtain ⟨NL, hNL⟩ : ∃ NL, NL = nx.length := ⟨_, rfl⟩
       rw [← hNL] at hnz HRW HS5 ⊢
       have HNL := Lib.hid hNL
       have hnb : (((NL : Nat) : Int) == 0) = false := by rw [beq_eq_false_iff_ne]; omega
       have hqlab : q < t.labels.length := by rw [← HLN.out]; exact hqL
       obtain ⟨bl, ol, rfl, hblw, hcells⟩ : ∃ bl ol, al = some ⟨bl, ol, none⟩ ∧ bl < w.heap.size ∧ ∀ i (h : i < t.labels.length) j, j < 1 → w.cell? ⟨bl, ol + i * 1 + j, none⟩ = (encS t.labels[i])[j]? := by
        rcases HLR.out with h | ⟨bl, ol, h1, -, h3, h4⟩
        ·have := HLN.out; omega
        ·exact ⟨bl, ol, h1, h3, h4⟩
       obtain ⟨l, hl⟩ : ∃ l, l = t.labels[q] := ⟨_, rfl⟩
       have cl1 : w.cell? ⟨bl, ol + q, none⟩ = some (.string l) := by
        have := hcells q hqlab 0 (by omega)
        rw [← hl] at this
        simpa [encS] using this
       have HGL : Hid (t.labels.getD (j + 1) ByteArray.empty = l) := by
        unfold Hid
        rw [← HQJ.out, List.getD_eq_getElem?_getD, List.getElem?_eq_getElem hqlab, hl]
        rfl
       have hbw5 : Below w.heap.size w w5 := HBw2.out.trans (HB5.out.mono hwB)
       have cl5 := keeps hbw5 hblw cl1
       have hbl5 : bl < w5.heap.size := Nat.lt_of_lt_of_le hblw hbw5.size
       obtain ⟨gq, hgq⟩ : ∃ gq, gq = goTo p y l := ⟨_, rfl⟩
       have HGO : Hid (∀ g : Later w5, Calls Tryz.prog 33 #[.pointer (some ⟨bp, 0, none⟩), .int .i64 y, .string l] g.w fun e w' => e = .returned (.int .i64 gq) ∧ Below g.w.heap.size g.w w') := fun g => by
        rw [hgq]
        exact l12Go_any bp lo p y l g.w VP.out.edge (HP2.out _ (HB5.out.trans (g.h.mono (Nat.le_trans hszr hsz5))))
       have HNXS : Hid (J.nx (cs, y) j = some (nx, gq)) := by
        unfold Hid
        rw [HNX.out, nxW_open HVD.out.symm HNE.out, HGL.out, ← hgq, ← HNX2.out]
       have l9 := later_cell (Nat.lt_of_lt_of_le hb9 hsz5) hc9'
       have l2 := later_cell (Nat.lt_of_lt_of_le hbtw hsz5) q2'
       have ll := later_cell hbl5 cl5
       have hqi2 : (q : Int) < (LN : Int) := by omega
       have hni2 : (n : Int) < (R2 : Int) := by omega
       clear hem hNL hnz hcells cl1 hl cl5 hgq hc9' q2' hqlab
       go_wp2
       refine wp_region_later (by kernel_rfl) (by kernel_rfl) ?_
       repeat (go_big_quiet_step ((go_at_call 33; exact later_call (HGO.out _))))
       refine wpQuiet_nil ?_
       intro _ hw9
       obtain ⟨nl, hw8⟩ := hw9
       subst hw8
       have HB6 := Lib.hid (HB5.out.trans (nl.h.mono (Nat.le_trans hszr hsz5)))
       have HM6 := Lib.hid (HM5.out.below nl.h)
       have HRW6 := Lib.hid (owns_below HRW.out nl.h)
       have HBC6 := Lib.hid (HBC.out.trans (nl.h.mono hsz5))
       have HS6 := Lib.hid (HS5.out.below nl.h)
       have hsz6 : wC2.heap.size ≤ nl.w.heap.size := Nat.le_trans hsz5 nl.h.size
       obtain ⟨wF, hwF⟩ : ∃ wF, wF = nl.w := ⟨_, rfl⟩
       rw [← hwF] at HB6 HM6 HRW6 HBC6 HS6 hsz6 ⊢
       have hszF : B ≤ wF.heap.size := by omega
       have HND := Lib.hid HGM.out.nodup
       clear l9 l2 ll hwF HB5 HM5 HRW HBC HS5 HGO hbw5
       go_wp2
       go_loopw [17, 18] (fun v17 v18 w7 => ∃ m : Nat, m ≤ R2 ∧ v18 = .int .i64 m ∧ v17 = .int .i64 (pwseen M.rows (nx, gq) m) ∧ Below wF.heap.size wF w7) (fun _ v18 _ => R2 - (intOf v18).toNat)
       case atStart => exact ⟨0, Nat.zero_le _, rfl, by rw [pwseen_zero], Below.refl _ _⟩
       case round =>
        obtain ⟨m, hm, rfl, rfl, hb7⟩ := hrel
        have HB7 := Lib.hid hb7
        have hs7 := hb7.size
        have HM7 := Lib.hid (HM6.out.below hb7)
        clear hb7
        by_cases hmt : m < R2
        ·have hmr : m < M.rows.length := by rw [← HR2.out]; exact hmt
         obtain ⟨xm, ym, hxy⟩ : ∃ xm ym, M.rows[m] = (xm, ym) := ⟨_, _, rfl⟩
         obtain ⟨b5, c5x, u5, e5, hb5, hc5, -, hsu5⟩ := HM7.out.rows.rowAt (n := m) (by rw [fst_len]; exact hmr)
         simp only [Value.slice.injEq, Option.some.injEq, Addr.mk.injEq, and_true] at e5
         obtain ⟨rfl, -, rfl⟩ := e5
         rw [List.getElem_map, hxy] at hsu5
         have h9 := HM7.out.atq
         rw [snd_len, ← HR2.out] at h9
         have hc7 := cell_num h9 hmt
         have hb97 := (h9.lt b9 rfl).2
         have hy7 : (M.rows.map Prod.snd).getD m 0 = ym := by rw [List.getD_eq_getElem?_getD, List.getElem?_map, List.getElem?_eq_getElem hmr, hxy]; rfl
         rw [hy7] at hc7
         have HSA := Lib.hid (l00Same_any _ _ u5 _ xm nx wr hsu5 (HS6.out.below HB7.out))
         clear hsu5 h9 hy7
         cases hyq : (ym == gq)
         ·have HSE := Lib.hid (pwseen_miss (r := (nx, gq)) hmr (by rw [hxy]; intro e; have := congrArg Prod.snd e; simp only at this; rw [this] at hyq; simp at hyq))
          clear hxy
          go_wp2
          go_roundw
          case rel => exact ⟨m + 1, by omega, by go_num, by rw [HSE.out], HB7.out⟩
          case measure => simp [intOf]; omega
         ·cases hs : (xm == nx)
          ·rw [hs] at HSA
           have HSE := Lib.hid (pwseen_miss (r := (nx, gq)) hmr (by rw [hxy]; intro e; have := congrArg Prod.fst e; simp only at this; rw [this] at hs; simp at hs))
           clear hs hxy
           go_wp2_with fail
           refine Calls.mono HSA.out ?_
           rintro e6 w8 ⟨rfl, hb8⟩
           have HB8 := Lib.hid (HB7.out.trans (hb8.mono hs7))
           clear hb8
           go_wp2
           go_roundw
           case rel => exact ⟨m + 1, by omega, by go_num, by rw [HSE.out], HB8.out⟩
           case measure => simp [intOf]; omega
          ·rw [hs] at HSA
           have HSE := Lib.hid (pwseen_hit (r := (nx, gq)) HND.out hmr (by rw [hxy, eq_of_beq hs, eq_of_beq hyq]))
           clear hs hxy
           go_wp2_with fail
           refine Calls.mono HSA.out ?_
           rintro e6 w8 ⟨rfl, hb8⟩
           have HB8 := Lib.hid (HB7.out.trans (hb8.mono hs7))
           clear hb8
           go_wp2
           go_roundw
           case rel => exact ⟨m + 1, by omega, by go_num, by rw [HSE.out], HB8.out⟩
           case measure => simp [intOf]; omega
        ·have hmR : R2 = m := by omega
         subst hmR
         have HBr := Lib.hid (HB6.out.trans (HB7.out.mono hszF))
         have HRW7 := Lib.hid (owns_below HRW6.out HB7.out)
         have HBC7 := Lib.hid (HBC6.out.trans (HB7.out.mono hsz6))
         have hszr7 : B ≤ wr.heap.size := by omega
         have hsz7 : wC2.heap.size ≤ wr.heap.size := by omega
         clear HM6 HRW6 HBC6 HB6 HS6 hmt
         by_cases hdp : pwplace M.rows (nx, gq) < M.rows.length
         ·obtain ⟨pn, hpn⟩ : ∃ pn, pn = pwplace M.rows (nx, gq) := ⟨_, rfl⟩
          have hse : pwseen M.rows (nx, gq) R2 = (pn : Int) := by unfold pwseen; rw [HR2.out, if_pos hdp, hpn]
          rw [hse]
          have HSTP : Hid (pwmid J n (cs, y) S0 (j + 1) = ⟨M.rows, M.edges ++ [⟨(n : Int), (q : Int), (pn : Int)⟩]⟩) := by
           unfold Hid
           rw [pwmid_succ, ← HM.out, pwstep_some HNXS.out, pwadd_old (pwplace_lt.1 hdp), ← hpn, HQI.out]
          clear hse hpn hdp
          have HEC : Hid (wr.ownsRow B 59 3 (.slice ae E2 ce) E2 (M.edges.flatMap encE)) := by
           have := HM7.out.ed
           rw [← HE2.out] at this
           exact this
          go_wp2_with (at_builtin; refine wpList_append_own_at _ rfl _ _ 25 rfl B 59 ie (.agg #[.int .i64 0, .int .i64 0, .int .i64 0]) 3 24 Tryz.underlying25 hie hze0 hze1 hze2 rfl (by decide) _ _ _ rfl (HEC.out.alloc _) ⟨wr.heap.size, 0, none⟩ 1 1 [.int .i64 n, .int .i64 q, .int .i64 pn] rfl rfl ?c1 ?c2 ?c3 ?c4 ?c5 ?_)
          case c1 => have := three_new wr ⟨n, q, pn⟩ 59; simpa [encE] using this
          case c2 => first | (intro u hu; simp at hu; rcases hu with rfl | rfl | rfl <;> rfl) | exact ⟨rfl, rfl, rfl⟩ | simp [Value.oneCell']
          case c3 => first | omega | (simp [maxLen]; omega)
          case c4 => first | omega | (simp; omega)
          case c5 => first | omega | (simp; omega)
          intro v10 w10 ho10 hg10 hz1 hz2
          clear hz1 hz2
          have hal10 : Below wr.heap.size wr (wr.alloc (.cells #[.int .i64 n, .int .i64 q, .int .i64 pn] 59)) := (Below.refl _ _).alloc (Nat.le_refl _) _
          have HM10 := Lib.hid (HM7.out.pushE (x := ⟨(n : Int), (q : Int), (pn : Nat)⟩) hal10 hg10 (by simpa [encE, ← HE2.out] using ho10))
          have HB10 : Hid (Below B w2 w10) := (HBr.out.alloc (by omega) _).grown hg10 (by simp; omega) (fun b e => (HEC.out.lt b e).1)
          obtain ⟨a10, c10, rfl, -, -⟩ := owns_slice ho10
          clear ho10 hg10 hal10 HEC
          by_cases hfull : 300 ≤ E2
          ·have HFU : Hid (WFull J) := WFull.step (j := j + 1) HCO.out (by rw [← HS0.out]; exact HCUR.out) (by have := HQJ.out; have := HJM.out; omega) (by rw [← HS0.out, HSTP.out]; intro h; have h1 := h.1; have h2 := h.2; simp only [List.length_append, List.length_singleton] at h1 h2; have := HR2.out; have := HE2.out; omega)
           have HXX := Lib.hid (HX2.out.belowB HB10.out hrbB)
           have x0 := HXX.out.cell 0 rfl
           have x1 := HXX.out.cell 1 rfl
           have x2 := HXX.out.cell 2 rfl
           have x3 := HXX.out.cell 3 rfl
           have x4 := HXX.out.cell 4 rfl
           have y0 := HXX.out.frozen 0
           have y1 := HXX.out.frozen 1
           have y2 := HXX.out.frozen 2
           have y3 := HXX.out.frozen 3
           have y4 := HXX.out.frozen 4
           have HBWW := Lib.hid (HBw2.out.trans (HB10.out.mono hwB))
           skip
           all_goals (
            go_wp21
            refine bodyPost_ret (smk_results rfl (((((HXX.out.set 0 _).set 1 _).set 2 _).set 3 _).set 4 _)) rfl ?_
            exact ⟨((((HBWW.out.setCell hrw _).setCell hrw _).setCell hrw _).setCell hrw _).setCell hrw _, c, d, HLV.out, HRS.out, .inl ⟨by rw [← HJ.out]; exact HFU.out, rfl⟩⟩)
          ·have hle300 : E2 + 1 ≤ 300 := by omega
           go_wp21
           go_roundw
           case rel =>
            refine ⟨j + 1, q + 1, vs2, by have := HQJ.out; omega, by go_num, by omega, fun h => absurd rfl h, ?_, HB10.out, ?_⟩
            ·rw [HSTP.out]; exact ⟨by have := HR2.out; simp; omega, by have := HE2.out; simp; omega⟩
            ·rw [HSTP.out]; exact HM10.out
           case measure => simp [intOf]; omega
         ·have hse : pwseen M.rows (nx, gq) R2 = -1 := by unfold pwseen; rw [HR2.out, if_neg hdp]
          rw [hse]
          have HSTP : Hid (pwmid J n (cs, y) S0 (j + 1) = ⟨M.rows ++ [(nx, gq)], M.edges ++ [⟨(n : Int), (q : Int), (R2 : Int)⟩]⟩) := by
           have h1 := pwadd_new (rows := M.rows) (r := (nx, gq)) (fun h => hdp (pwplace_lt.2 h))
           unfold Hid
           rw [pwmid_succ, ← HM.out, pwstep_some HNXS.out, h1.1, h1.2, ← HR2.out, HQI.out]
          clear hse hdp
          have HRC : Hid (wr.ownsRow B 28 1 (.slice (some ⟨b8, 0, none⟩) R2 c8) R2 vs2) := by
           have := HM7.out.rows.2.1
           rw [hvl2] at this
           exact this
          go_wp2_with (at_builtin; refine wpList_append_own_at _ rfl _ _ 71 rfl B 28 i0 (.slice none 0 0) 1 24 Tryz.underlying71 hi hz0 hz1 hz2 rfl (by decide) _ _ _ rfl (HRC.out.alloc _) ⟨wr.heap.size, 0, none⟩ 1 1 [.slice a2 NL c2] rfl rfl ?c1 ?c2 ?c3 ?c4 ?c5 ?_)
          case c1 => exact (cell_one_new _ _ _)
          case c2 => first | rfl | (intro u hu; simp at hu; subst hu; rfl)
          case c3 => first | omega | (simp [maxLen]; omega)
          case c4 => first | omega | (simp; omega)
          case c5 => first | omega | (simp; omega)
          intro v8 w8 ho8 hg8 hz1 hz2
          clear hz1 hz2
          have hal8 : Below wr.heap.size wr (wr.alloc (.cells #[.slice a2 NL c2] 28)) := (Below.refl _ _).alloc (Nat.le_refl _) _
          have HM8 := Lib.hid (HME.out.pushR (r := nx) (HBC7.out.trans (hal8.mono hsz7)) (by rw [← HNL.out]; exact owns_below HRW7.out hal8) (Nat.le_refl _) hszr hg8 (by rw [hvl2]; exact ho8))
          have HB8 : Hid (Below B w2 w8) := (HBr.out.alloc hszr7 _).grown hg8 (by simp; omega) (fun b e => (HRC.out.lt b e).1)
          obtain ⟨a8', c8x, rfl, -, -⟩ := owns_slice ho8
          have hs8 : B ≤ w8.heap.size := by rw [HBB.out]; exact HB8.out.size
          clear ho8 hg8 hal8 HRC
          have HAC : Hid (w8.ownsRow B 2 1 (.slice (some ⟨b9, 0, none⟩) R2 c9) R2 ((M.rows.map Prod.snd).map (Value.int .i64))) := by
           have := HM8.out.atq
           rw [snd_len, ← HR2.out] at this
           exact this
          go_wp2_with (at_builtin; refine wpList_append_own_at _ rfl _ _ 28 rfl B 2 i1 (.int .i64 0) 1 8 Tryz.underlying28 hi1 hz10 hz11 hz12 rfl (by decide) _ _ _ rfl (HAC.out.alloc _) ⟨w8.heap.size, 0, none⟩ 1 1 [.int .i64 gq] rfl rfl ?c1 ?c2 ?c3 ?c4 ?c5 ?_)
          case c1 => exact (cell_one_new _ _ _)
          case c2 => first | rfl | (intro u hu; simp at hu; subst hu; rfl)
          case c3 => first | omega | (simp [maxLen]; omega)
          case c4 => first | omega | (simp; omega)
          case c5 => first | omega | (simp; omega)
          intro v9 w9 ho9 hg9 hz1 ha9
          clear hz1
          have hal9 : Below w8.heap.size w8 (w8.alloc (.cells #[.int .i64 gq] 2)) := (Below.refl _ _).alloc (Nat.le_refl _) _
          have HM9 := Lib.hid (HM8.out.pushA (y := gq) hal9 hg9 (by rw [snd_len, ← HR2.out]; first | exact ho9 | (rw [List.map_map]; exact ho9) | simpa using ho9) (by simpa using ha9))
          have HB9 : Hid (Below B w2 w9) := (HB8.out.alloc hs8 _).grown hg9 (by simp; omega) (fun b e => (HAC.out.lt b e).1)
          obtain ⟨a9', c9x, rfl, -, -⟩ := owns_slice ho9
          have hs9 : B ≤ w9.heap.size := by rw [HBB.out]; exact HB9.out.size
          clear ho9 hg9 ha9 hal9 HAC HM8 HB8
          have HEC : Hid (w9.ownsRow B 59 3 (.slice ae E2 ce) E2 (M.edges.flatMap encE)) := by
           have := HM9.out.ed
           rw [← HE2.out] at this
           exact this
          go_wp2_with (at_builtin; refine wpList_append_own_at _ rfl _ _ 25 rfl B 59 ie (.agg #[.int .i64 0, .int .i64 0, .int .i64 0]) 3 24 Tryz.underlying25 hie hze0 hze1 hze2 rfl (by decide) _ _ _ rfl (HEC.out.alloc _) ⟨w9.heap.size, 0, none⟩ 1 1 [.int .i64 n, .int .i64 q, .int .i64 R2] rfl rfl ?c1 ?c2 ?c3 ?c4 ?c5 ?_)
          case c1 => have := three_new w9 ⟨n, q, R2⟩ 59; simpa [encE] using this
          case c2 => first | (intro u hu; simp at hu; rcases hu with rfl | rfl | rfl <;> rfl) | exact ⟨rfl, rfl, rfl⟩ | simp [Value.oneCell']
          case c3 => first | omega | (simp [maxLen]; omega)
          case c4 => first | omega | (simp; omega)
          case c5 => first | omega | (simp; omega)
          intro v10 w10 ho10 hg10 hz1 hz2
          clear hz1 hz2
          have hal10 : Below w9.heap.size w9 (w9.alloc (.cells #[.int .i64 n, .int .i64 q, .int .i64 R2] 59)) := (Below.refl _ _).alloc (Nat.le_refl _) _
          have HM10 := Lib.hid (HM9.out.pushE (x := ⟨(n : Int), (q : Int), (R2 : Nat)⟩) hal10 hg10 (by simpa [encE, ← HE2.out] using ho10))
          have HB10 : Hid (Below B w2 w10) := (HB9.out.alloc (by omega) _).grown hg10 (by simp; omega) (fun b e => (HEC.out.lt b e).1)
          obtain ⟨a10, c10, rfl, -, -⟩ := owns_slice ho10
          clear ho10 hg10 hal10 HEC
          by_cases hfull : 40 ≤ R2 ∨ 300 ≤ E2
          ·have HFU : Hid (WFull J) := WFull.step (j := j + 1) HCO.out (by rw [← HS0.out]; exact HCUR.out) (by have := HQJ.out; have := HJM.out; omega) (by rw [← HS0.out, HSTP.out]; intro h; have h1 := h.1; have h2 := h.2; simp only [List.length_append, List.length_singleton] at h1 h2; have := HR2.out; have := HE2.out; omega)
           have HXX := Lib.hid (HX2.out.belowB HB10.out hrbB)
           have x0 := HXX.out.cell 0 rfl
           have x1 := HXX.out.cell 1 rfl
           have x2 := HXX.out.cell 2 rfl
           have x3 := HXX.out.cell 3 rfl
           have x4 := HXX.out.cell 4 rfl
           have y0 := HXX.out.frozen 0
           have y1 := HXX.out.frozen 1
           have y2 := HXX.out.frozen 2
           have y3 := HXX.out.frozen 3
           have y4 := HXX.out.frozen 4
           have HBWW := Lib.hid (HBw2.out.trans (HB10.out.mono hwB))
           by_cases h40 : 40 ≤ R2
           all_goals (
            go_wp21
            refine bodyPost_ret (smk_results rfl (((((HXX.out.set 0 _).set 1 _).set 2 _).set 3 _).set 4 _)) rfl ?_
            exact ⟨((((HBWW.out.setCell hrw _).setCell hrw _).setCell hrw _).setCell hrw _).setCell hrw _, c, d, HLV.out, HRS.out, .inl ⟨by rw [← HJ.out]; exact HFU.out, rfl⟩⟩)
          ·have hle40 : R2 + 1 ≤ 40 := by omega
           have hle300 : E2 + 1 ≤ 300 := by omega
           clear hfull
           go_wp21
           go_roundw
           case rel =>
            refine ⟨j + 1, q + 1, vs2 ++ [.slice a2 NL c2], by have := HQJ.out; omega, by go_num, by omega, fun h => absurd rfl h, ?_, HB10.out, ?_⟩
            ·rw [HSTP.out]; exact ⟨by have := HR2.out; simp; omega, by have := HE2.out; simp; omega⟩
            ·rw [HSTP.out]; rw [List.map_append, List.map_append]; exact HM10.out
           case measure => simp [intOf]; omega
     ·have hex : Hid (pwAt J (n + 1) = M) := by
       have h1 := pwAt_succ (G := J) (n := n) (by rw [← HS0.out]; exact HCUR.out)
       unfold Hid
       rw [h1, ← HS0.out, HM.out]
       have hj := hv0 hvd0
       subst hj
       rw [pwmid_zero, pwmid_none]
       intro k
       rw [HNX.out]
       exact nxW_shut (by rw [← HVD.out]; exact hvd0) k
      have HCN := Lib.hid (HCO.out.succ (by rw [← HS0.out, ← HR.out]; exact hlt))
      have hn40 : n < 40 := by omega
      have HVV : Hid (vdsTo p c d M.rows (n + 1) = vdsTo p c d S0.rows (n + 1)) := by
       obtain ⟨⟨r, hr⟩, -⟩ := pwmid_le J n (cs, y) S0 0 j
       rw [Nat.zero_add, pwmid_zero, ← HM.out] at hr
       unfold Hid
       rw [hr, vdsTo_more p c d S0.rows (by omega)]
      go_wp2
      go_roundw
      case rel =>
       refine ⟨n + 1, .slice a5 (n + 1) c5, vs2, by go_num, HCN.out, ?_, HBL.out, ?_⟩
       ·rw [hex.out]; exact HSM.out
       ·rw [hex.out, HVV.out]; exact HME.out
      case measure => simp [intOf]; omega
    ·have hex : Hid (pwAt J (n + 1) = M) := by
      have h1 := pwAt_succ (G := J) (n := n) (by rw [← HS0.out]; exact HCUR.out)
      unfold Hid
      rw [h1, ← HS0.out, HM.out]
      rw [HJM.out, show LN - 1 = j from by have := HQJ.out; omega]
     have HCN := Lib.hid (HCO.out.succ (by rw [← HS0.out, ← HR.out]; exact hlt))
     have hn40 : n < 40 := by omega
     have HVV : Hid (vdsTo p c d M.rows (n + 1) = vdsTo p c d S0.rows (n + 1)) := by
      obtain ⟨⟨r, hr⟩, -⟩ := pwmid_le J n (cs, y) S0 0 j
      rw [Nat.zero_add, pwmid_zero, ← HM.out] at hr
      unfold Hid
      rw [hr, vdsTo_more p c d S0.rows (by omega)]
     go_wp2
     go_roundw
     case rel =>
      refine ⟨n + 1, .slice a5 (n + 1) c5, vs2, by go_num, HCN.out, ?_, HBL.out, ?_⟩
      ·rw [hex.out]; exact HSM.out
      ·rw [hex.out, HVV.out]; exact HME.out
     case measure => simp [intOf]; omega
  ·have HOK : Hid (PWOk J S0) := by
    unfold Hid
    rw [HS0.out]
    exact PWOk.done HCO.out (by rw [← HS0.out]; exact HSM.out) (by rw [← HS0.out, ← HR.out]; exact hlt)
   have HNR : Hid (n = R) := by unfold Hid; omega
   have q2 := HQ22.out _ HBL.out
   have hbtw : bt < wC.heap.size := by omega
   have HXX := Lib.hid (HX2.out.belowB HBL.out hrbB)
   have hrbC := HXX.out.lt
   obtain ⟨is, his, hsz0, hsz1, hsz2⟩ := info_parts info_str19
   obtain ⟨bl, ol, rfl, hblw, hcells⟩ : ∃ bl ol, al = some ⟨bl, ol, none⟩ ∧ bl < w.heap.size ∧ ∀ i (h : i < t.labels.length) j, j < 1 → w.cell? ⟨bl, ol + i * 1 + j, none⟩ = (encS t.labels[i])[j]? := by
    rcases HLR.out with h | ⟨bl, ol, h1, -, h3, h4⟩
    ·have := HLN.out; omega
    ·exact ⟨bl, ol, h1, h3, h4⟩
   have HCE : Hid (∀ o, ∀ j u, (t.labels.map Value.string)[j]? = some u → (wC.alloc o).cell? ((⟨bl, ol, none⟩ : Addr).add j) = some u) := by
    intro o j u hu
    have h1 := row_news hcells j u hu
    have hb : Below w.heap.size w (wC.alloc o) := (HBw2.out.trans (HBL.out.mono hwB)).alloc (by omega) _
    exact (hb.cell (p := (⟨bl, ol, none⟩ : Addr).add j) (by rw [add_block]; exact hblw)).trans h1
   have HON : Hid ((wC.alloc (.cells #[] 9)).ownsRow B 9 1 (.slice (some ⟨wC.heap.size, 0, none⟩) 0 0) 0 []) := World.ownsRow_lit (size := 1) wC #[] 0 hszC (by decide) rfl
   clear hcells
   go_wp2_with (at_builtin; refine wpList_append_own_at _ rfl _ _ 24 rfl B 9 is (.string ⟨#[]⟩) 1 16 Tryz.underlying24 his hsz0 hsz1 hsz2 rfl (by decide) _ _ _ rfl HON.out ⟨bl, ol, none⟩ LN cl (t.labels.map .string) rfl ?c0 (HCE.out _) ?c2 ?c3 ?c4 ?c5 ?_)
   case c0 => rw [List.length_map, ← HLN.out, Nat.mul_one]
   case c2 => intro u hu; obtain ⟨x, -, rfl⟩ := List.mem_map.1 hu; rfl
   case c3 => first | omega | (simp [maxLen]; omega)
   case c4 => first | omega | (simp; omega)
   case c5 => first | omega | (simp; omega)
   intro v5 w5 ho5 hg5 _ _
   have hal5 : Below wC.heap.size wC (wC.alloc (.cells #[] 9)) := (Below.refl _ _).alloc (Nat.le_refl _) _
   have hb5 : Below wC.heap.size wC w5 := hal5.grown hg5 (by simp) (fun b e => by cases e; exact Nat.le_refl _)
   have HX5 := Lib.hid (HXX.out.below hb5)
   have HO5 : Hid (w5.ownsRow B 9 1 v5 LN (t.labels.map .string)) := by unfold Hid; simpa using ho5
   have HME5 := Lib.hid (HME.out.below hb5)
   have HB5 := Lib.hid (HBL.out.trans (hb5.mono hszC))
   obtain ⟨a5, c5, rfl, -, -⟩ := owns_slice HO5.out
   clear ho5 hg5 hal5 hb5 q2
   have hXO := HME5.out.blk
   have hobw := hXO.lt
   have hneb : ob ≠ rb := by omega
   have z0 := hXO.cell 0 rfl
   have z1 := hXO.cell 1 rfl
   have z2 := hXO.cell 2 rfl
   have z3 := hXO.cell 3 rfl
   have z4 := hXO.cell 4 rfl
   have zf0 := hXO.frozen 0
   have zf1 := hXO.frozen 1
   have zf2 := hXO.frozen 2
   have zf3 := hXO.frozen 3
   have zf4 := hXO.frozen 4
   have x0 := HX5.out.cell 0 rfl
   have x1 := HX5.out.cell 1 rfl
   have x2 := HX5.out.cell 2 rfl
   have x3 := HX5.out.cell 3 rfl
   have x4 := HX5.out.cell 4 rfl
   have y0' := HX5.out.frozen 0
   have y1 := HX5.out.frozen 1
   have y2 := HX5.out.frozen 2
   have y3 := HX5.out.frozen 3
   have y4 := HX5.out.frozen 4
   have HXO := Lib.hid hXO
   clear hXO
   go_wp21
   have HXO2 := Lib.hid ((((HXO.out.set 0 (.int .i64 R)).set 1 (.int .i64 0)).set 2 (.slice a5 LN c5)).set 3 (.slice ae E ce))
   have HX6 : Hid (Blk ((((w5.setCell ⟨ob, 0, none⟩ (.int .i64 R)).setCell ⟨ob, 1, none⟩ (.int .i64 0)).setCell ⟨ob, 2, none⟩ (.slice a5 LN c5)).setCell ⟨ob, 3, none⟩ (.slice ae E ce)) rb [.int .i64 0, .int .i64 0, .slice none 0 0, .slice none 0 0, .slice none 0 0] 30) :=
    (((HX5.out.setOther _ _ hneb.symm).setOther _ _ hneb.symm).setOther _ _ hneb.symm).setOther _ _ hneb.symm
   have HBWW := Lib.hid (HBw2.out.trans (HB5.out.mono hwB))
   have hwob : w.heap.size ≤ ob := by omega
   refine bodyPost_ret (smk_results rfl (((((HX6.out.set 0 _).set 1 _).set 2 _).set 3 _).set 4 _)) rfl ?_
   refine ⟨((((((((HBWW.out.setCell hwob _).setCell hwob _).setCell hwob _).setCell hwob _).setCell hrw _).setCell hrw _).setCell hrw _).setCell hrw _).setCell hrw _, c, d, HLV.out, HRS.out, .inr ⟨S0, .slice a5 LN c5, .slice ae E ce, _, by rw [← HJ.out]; exact HOK.out, by rw [← HR.out]; rfl, ⟨?_, ?_⟩, ?_⟩⟩
   ·show World.ownsRow _ w.heap.size 9 1 _ t.labels.length (t.labels.map .string)
    rw [← HLN.out]
    exact own5M HX6.out (own4M HXO.out (own_lower HO5.out hwB) (by decide)) (by decide)
   ·show World.ownsRow _ w.heap.size 59 3 _ S0.edges.length (S0.edges.flatMap encE)
    exact own5M HX6.out (own4M HXO.out (own_lower HME5.out.ed hwB) (by decide)) (by decide)
   ·show World.ownsRow _ w.heap.size 2 1 _ (S0.rows.map fun r => vdL p c d r.1 r.2).length ((S0.rows.map fun r => vdL p c d r.1 r.2).map (Value.int .i64))
    have hv := HME5.out.vd
    have hvd : vdsTo p c d S0.rows n = S0.rows.map fun r => vdL p c d r.1 r.2 := by rw [HNR.out, HR.out, vdsTo_all]
    rw [hvd] at hv
    exact own5M HX6.out (own4M HXO.out (own_lower hv hwB) (by decide)) (by decide)

end Go.Proofs.YtmeibnhhlknbfaaGreatDoor

namespace Go.Proofs.YtmeibnhhlknbfaaGreatDoor
open Go Go.RowKit

theorem bytes_up {w W : World} {v : Value} {bs : List UInt8} (h : BytesIn w.heap.size w v bs) (hb : Below w.heap.size w W) : BytesIn W.heap.size W v bs := by
 obtain ⟨a, c, e, hl, h0⟩ := h.grown (grown_below hb none) (fun k e => by cases e)
 refine ⟨a, c, e, hl, ?_⟩
 rcases h0 with h0 | ⟨b, o, e1, h1, h2, h3⟩
 ·exact .inl h0
 ·exact .inr ⟨b, o, e1, h2, h2, h3⟩

theorem from_any (cv : Value) (bs : List UInt8) (w : World) (hc : BytesIn w.heap.size w cv bs) :
  Calls Tryz.prog 11 #[cv] w fun e w' => e = .returned (.pointer (some ⟨w.heap.size, 0, none⟩)) ∧ Below w.heap.size w w' ∧ Src w.heap.size 0 w' := by
 obtain ⟨W, hW⟩ : ∃ W, W = w.alloc (.cells #[cv, .int .i64 0, .int .u64 0] 52) := ⟨_, rfl⟩
 have hb : Below w.heap.size w W := by rw [hW]; exact (Below.refl _ _).alloc (Nat.le_refl _) _
 have HS : Hid (Src w.heap.size 0 W) := ⟨cv, bs, 0, 0, hc.grown (grown_below hb none) (fun k e => by cases e), by rw [hW]; exact Blk.new w _ _, Nat.le_refl _, by decide, by decide⟩
 have HB := Lib.hid hb
 have HW := Lib.hid hW
 obtain ⟨a, c, rfl, -, -⟩ := hc
 clear hW hb
 go_enter Tryz.func11, Tryz.ntmps11
 go_wp2
 go_ret
 rw [← HW.out]
 exact ⟨rfl, HB.out, HS.out⟩

theorem b10Long_any (a : Option Addr) (N c : Nat) (w : World) : Calls Tryz.prog 4 #[.slice a N c] w fun e w' => e = .returned (.bool (decide (1048576 < N))) ∧ w = w' := by
 by_cases h : 1048576 < N
 ·have hi : (1048576 : Int) < (N : Int) := by omega
  have HF : Hid (decide (1048576 < N) = true) := decide_eq_true h
  go_enter Tryz.func4, Tryz.ntmps4
  go_wp2
  go_ret
  exact ⟨by rw [HF.out]; rfl, rfl⟩
 ·have hi : ¬ (1048576 : Int) < (N : Int) := by omega
  have HF : Hid (decide (1048576 < N) = false) := decide_eq_false h
  go_enter Tryz.func4, Tryz.ntmps4
  go_wp2
  go_ret
  exact ⟨rfl, rfl⟩

theorem bytes_eqY {a b : ByteArray} (h : a.toList = b.toList) : a = b := by
 rw [Lib.toList_data, Lib.toList_data] at h
 exact ByteArray.ext (Array.toList_inj.1 h)

set_option maxRecDepth 100000 in
set_option maxHeartbeats 1000000 in
theorem b10Texts_any (lo lo2 : Nat) (v v2 : Value) (xs ys : List ByteArray) (w : World) (hv : SliceK 1 encS lo w v xs) (hv2 : SliceK 1 encS lo2 w v2 ys) : Calls Tryz.prog 10 #[v, v2] w fun e w' => e = .returned (.bool (decide (xs = ys))) ∧ Below w.heap.size w w' := by
 obtain ⟨a, cap, rfl, hn, hcap, hrow⟩ := hv
 obtain ⟨a2, cap2, rfl, hn2, hcap2, hrow2⟩ := hv2
 by_cases hl : xs.length = ys.length
 ·have hl1 : ((xs.length : Int) == (ys.length : Int)) = true := by rw [beq_iff_eq]; omega
  have HL := Lib.hid hl
  rw [← hl] at hn2
  have hl2 : (ys.length : Int) = (xs.length : Int) := by omega
  clear hl
  go_enter Tryz.func10, Tryz.ntmps10
  go_wp2
  clear hl1
  go_loopw [5] (fun i wr => ∃ k : Nat, k ≤ xs.length ∧ i = .int .i64 k ∧ Below w.heap.size w wr ∧ ∀ j (h : j < xs.length) (h2 : j < ys.length), j < k → xs[j] = ys[j]) (fun i _ => xs.length - (intOf i).toNat)
  case atStart => exact ⟨0, Nat.zero_le _, rfl, Below.refl _ _, fun _ _ _ h => by omega⟩
  case round =>
   obtain ⟨k, hk, rfl, hbl, hx⟩ := hrel
   have HX := Lib.hid hx
   have HBL := Lib.hid hbl
   have hsz := hbl.size
   clear hx
   by_cases hlt : k < xs.length
   ·have hlt2 : k < ys.length := by have := HL.out; omega
    obtain ⟨b, o, rfl, -, hb, c⟩ := (hrow.below hbl).one hlt
    obtain ⟨b2, o2, rfl, -, hb2, c2⟩ := (hrow2.below hbl).one hlt2
    simp only [encS, List.getElem?_cons_zero] at c c2
    have s1 := later_cell hb c
    have s2 := later_cell hb2 c2
    clear hrow hrow2 hbl c c2
    cases g : (xs[k].toList == ys[k].toList)
    ·have HG : Hid (decide (xs = ys) = false) := by
      unfold Hid
      rw [beq_eq_false_iff_ne] at g
      refine decide_eq_false fun e => ?_
      subst e
      exact g rfl
     go_wp2
     refine wp_region_later (by kernel_rfl) (by kernel_rfl) ?_
     repeat (go_big_quiet_step ((fail)))
     refine wpQuiet_nil ?_
     intro _ hw9
     obtain ⟨nl, hw8⟩ := hw9
     subst hw8
     go_wp2
     go_ret
     exact ⟨ret_bool HG.out.symm, HBL.out.trans (nl.h.mono hsz)⟩
    ·have HG : Hid (xs[k] = ys[k]) := bytes_eqY (eq_of_beq g)
     go_wp2
     refine wp_region_later (by kernel_rfl) (by kernel_rfl) ?_
     repeat (go_big_quiet_step ((fail)))
     refine wpQuiet_nil ?_
     intro _ hw9
     obtain ⟨nl, hw8⟩ := hw9
     subst hw8
     go_wp2
     go_roundw
     case rel => exact ⟨k + 1, by omega, by go_num, HBL.out.trans (nl.h.mono hsz), fun j h h2 h' => by
       by_cases e : j = k
       ·subst e; exact HG.out
       ·exact HX.out j h h2 (by omega)⟩
     case measure => simp [intOf]; omega
   ·clear hrow hrow2 hbl
    go_wp2
    go_ret
    refine ⟨ret_bool ?_, HBL.out⟩
    symm
    refine decide_eq_true ?_
    exact List.ext_getElem HL.out (fun j h1 h2 => HX.out j h1 h2 (by omega))
 ·have hl1 : ((xs.length : Int) == (ys.length : Int)) = false := by rw [beq_eq_false_iff_ne]; omega
  have HG : Hid (decide (xs = ys) = false) := decide_eq_false fun e => hl (by rw [e])
  clear hl hrow hrow2
  go_enter Tryz.func10, Tryz.ntmps10
  go_wp2
  go_ret
  exact ⟨ret_bool HG.out.symm, Below.refl _ _⟩

end Go.Proofs.YtmeibnhhlknbfaaGreatDoor
