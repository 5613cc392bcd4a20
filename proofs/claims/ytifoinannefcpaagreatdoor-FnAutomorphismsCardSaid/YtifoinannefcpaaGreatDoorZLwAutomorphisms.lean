/-
  For all arguments the law FnAutomorphisms answers true.
-/
import Derived.Test.YtifoinannefcpaaGreatDoorA12
import Derived.Test.YtifoinannefcpaaGreatDoorA16
import Derived.Test.YtifoinannefcpaaGreatDoorA18
namespace Go.Proofs.YtifoinannefcpaaGreatDoor
open Go Go.RowKit


theorem short6A {ls : List ByteArray} (h : ∀ l ∈ ls, l.size ≤ 6) : Short20 ls := fun i hi => by have := h _ (List.getElem_mem hi); omega
theorem riseE_validA {t : Lts} (hv : Valid t) : RiseE t.edges := by
 unfold RiseE
 rw [List.pairwise_iff_getElem]
 intro i j hi hj hij
 induction j with
 | zero => omega
 | succ j ih =>
  have h1 := hv.rise j hj
  rcases Nat.lt_or_ge i j with hlt | hge
  ·have h2 := ih (by omega) hlt
   rw [edgeLess_iff] at *
   omega
  ·obtain rfl : i = j := by omega
   exact h1
/-- A row of a list of rows. -/
theorem intss_row {lo : Nat} {w : World} {a : Option Addr} {n c : Nat} {os : List (List Int)} (h : IntssAt lo w (.slice a n c) os) {i : Nat} (hi : i < os.length) (hne : os[i] ≠ []) :
  ∃ (b o xb xo xc : Nat), a = some ⟨b, o, none⟩ ∧ b < w.heap.size ∧ w.cell? ⟨b, o + i, none⟩ = some (.slice (some ⟨xb, xo, none⟩) os[i].length xc) ∧ os[i].length ≤ xc ∧ xb < w.heap.size ∧ (∀ j, j < os[i].length → w.cell? ⟨xb, xo + j, none⟩ = some (.int .i64 (os[i].getD j 0))) ∧ SliceK 1 encI lo w (.slice (some ⟨xb, xo, none⟩) os[i].length xc) os[i] := by
 obtain ⟨vs, hl, ⟨a', c', e, -, -, hrow⟩, hr⟩ := h
 have hiv : i < vs.length := by omega
 have hri := hr i hiv hi
 obtain ⟨xb, xo, xc, hv, hxc, hxb, hcell⟩ := rowI_in hri hne
 obtain ⟨b, o, ha, -, hb, c1⟩ := hrow.one hiv
 simp only [encV, List.getElem?_cons_zero] at c1
 simp only [Value.slice.injEq] at e
 rw [hv] at c1 hri
 exact ⟨b, o, xb, xo, xc, e.1.trans ha, hb, c1, hxc, hxb, hcell, hri⟩
theorem any_takeA {os : List (List Int)} {x : List Int} {i : Nat} (hi : i < os.length) : (os.take (i + 1)).any (fun o => o == x) = ((os.take i).any (fun o => o == x) || (os[i] == x)) := by
 rw [List.take_succ_eq_append_getElem hi, List.any_append]
 simp

set_option maxRecDepth 100000 in
set_option maxHeartbeats 8000000 in
theorem lawAutomorphisms (a0 : Option Addr) (N c0 : Nat) (bs : List UInt8) (a1 : Option Addr) (N1 c1 : Nat) (bs1 : List UInt8) (w : World) (hN : N = bs.length) (hc : N ≤ 1048576 → BytesIn w.heap.size w (.slice a0 N c0) bs) (hN1 : N1 = bs1.length) (hc1 : N1 ≤ 1048576 → BytesIn w.heap.size w (.slice a1 N1 c1) bs1) (g : Glob w) :
  Calls Tryz.prog 3 #[.slice a0 N c0, .slice a1 N1 c1] w fun e w' => e = .returned (.bool true) ∧ Below w.heap.size w w' := by
 have HLG := Lib.hid (b10Long_any a0 N c0 w)
 have HLG1 := Lib.hid (b10Long_any a1 N1 c1 w)
 by_cases hlong : 1048576 < N
 ·have hd : decide (1048576 < N) = true := decide_eq_true hlong
  rw [hd] at HLG
  clear hd hN hc hN1 hc1 HLG1
  go_enter Tryz.func3, Tryz.ntmps3
  go_wp2_with fail
  refine Calls.mono HLG.out ?_
  rintro e w1 ⟨rfl, rfl⟩
  go_wp2
  go_ret
  exact ⟨rfl, Below.refl _ _⟩
 have hd : decide (1048576 < N) = false := decide_eq_false hlong
 rw [hd] at HLG
 by_cases hlong1 : 1048576 < N1
 ·have hd : decide (1048576 < N1) = true := decide_eq_true hlong1
  rw [hd] at HLG1
  clear hd hN hc hN1 hc1
  go_enter Tryz.func3, Tryz.ntmps3
  go_wp2_with fail
  refine Calls.mono HLG.out ?_
  rintro e w1 ⟨rfl, rfl⟩
  go_wp2_with fail
  refine Calls.mono HLG1.out ?_
  rintro e w1 ⟨rfl, rfl⟩
  go_wp2
  go_ret
  exact ⟨rfl, Below.refl _ _⟩
 have hd1 : decide (1048576 < N1) = false := decide_eq_false hlong1
 rw [hd1] at HLG1
 obtain ⟨i1, hi1, hy0, hy1, hy2⟩ := info_parts info_int64N
 have HTW := Lib.hid (b10Twin_any (.slice a0 N c0) bs w (hc (by omega)))
 have HC1 := Lib.hid (hc1 (by omega))
 have HN1 := Lib.hid hN1
 have HG := Lib.hid g
 clear hd hd1 hN hc hN1 hc1 g
 go_enter Tryz.func3, Tryz.ntmps3
 go_wp2_with fail
 refine Calls.mono HLG.out ?_
 rintro e w1 ⟨rfl, rfl⟩
 go_wp2_with fail
 refine Calls.mono HLG1.out ?_
 rintro e w1 ⟨rfl, rfl⟩
 clear HLG HLG1
 go_wp2_with fail
 refine Calls.mono HTW.out ?_
 rintro e w2 ⟨hb2, t, lv, ev, rfl, hot, hv, h6, hsm⟩
 obtain ⟨lp, lc, rfl, -, -⟩ := owns_slice hot.1
 obtain ⟨ep, ec, rfl, -, -⟩ := owns_slice hot.2
 obtain ⟨S, hS⟩ : ∃ S : Nat, (S : Int) = t.states := ⟨t.states.toNat, by have := hv.st0; omega⟩
 have hS1 : 1 ≤ S := by have := hv.st0; omega
 have hS6 : S ≤ 6 := by omega
 have hSN : t.states.toNat = S := by omega
 have hr := riseE_validA hv
 have hsh := short6A hsm
 obtain ⟨tb, htb⟩ : ∃ tb, tb = w2.heap.size := ⟨_, rfl⟩
 obtain ⟨W3, hW3⟩ : ∃ W3, W3 = w2.alloc (.cells #[.int .i64 S, .int .i64 t.initial, .slice lp t.labels.length lc, .slice ep t.edges.length ec] 27) := ⟨_, rfl⟩
 have hb3 : Below w2.heap.size w2 W3 := by rw [hW3]; exact (Below.refl _ _).alloc (Nat.le_refl _) _
 have hT : Blk W3 tb [.int .i64 S, .int .i64 t.initial, .slice lp t.labels.length lc, .slice ep t.edges.length ec] 27 := by rw [hW3, htb]; exact Blk.new _ _ _
 have hot3 := hot.below hb3
 have HL : Hid (SliceK 1 encS w.heap.size W3 (.slice lp t.labels.length lc) t.labels) := SliceK.of_owns (enc := encS) (e := 9) encS_len rfl (by rw [flat_encS]; exact hot3.1)
 have HE : Hid (SliceK 3 encE w.heap.size W3 (.slice ep t.edges.length ec) t.edges) := SliceK.of_owns (e := 62) encE_len rfl hot3.2
 have hs2 : w.heap.size ≤ w2.heap.size := hb2.size
 have hB3 : Below w.heap.size w W3 := hb2.trans (hb3.mono hs2)
 have HB3 := Lib.hid hB3
 have HG3 := Lib.hid (HG.out.below hB3)
 have HAU : Hid (Calls Tryz.prog 6 #[.agg #[.int .i64 S, .int .i64 t.initial, .slice lp t.labels.length lc, .slice ep t.edges.length ec]] W3 (RetAuts t W3)) := by
  have h := AutomorphismsOf_any w.heap.size t _ _ W3 hv h6 hsh HL.out HE.out HG3.out
  rw [← hS] at h
  exact h
 have HV := Lib.hid hv
 have HRI := Lib.hid hr
 have HSH := Lib.hid hsh
 have HS := Lib.hid hS
 have HSN := Lib.hid hSN
 have HT := Lib.hid hT
 have HW3 := Lib.hid hW3
 have HTB := Lib.hid htb
 have HBY := Lib.hid (bytes_up HC1.out hB3)
 have x0 := hT.cell 0 rfl
 have x1 := hT.cell 1 rfl
 have x2 := hT.cell 2 rfl
 have x3 := hT.cell 3 rfl
 have hs3 : w.heap.size ≤ W3.heap.size := hB3.size
 rw [← hS]
 clear hb2 hot hv h6 hsm hS hSN hr hsh htb hW3 hb3 hT hot3 hB3 HTW HG HC1
 go_wp2_with fail
 rw [← HW3.out]
 try rw [← HTB.out]
 refine Calls.mono HAU.out ?_
 rintro e w4 ⟨la, lac, rfl, hb4, hl4⟩
 clear x0 x1 x2 x3 HAU
 obtain ⟨os, hos⟩ : ∃ os, os = autsL t := ⟨_, rfl⟩
 rw [← hos] at hl4 ⊢
 have hosA : ∀ o ∈ os, AutO t o := fun o ho => (auts_iff HRI.out).1 (by rw [← hos]; exact ho)
 have hos0 : 0 < os.length := by rw [hos]; exact auts_some HV.out HRI.out
 have hosF : os.length ≤ 46656 := by
  rw [hos, autsL_eq, HSN.out]
  exact Nat.le_trans (List.length_filter_le _ _) (ordsL_few hS6 hS6)
 have hcomp : ∀ a ∈ os, ∀ b ∈ os, compO S a b ∈ os := fun a ha b hb => by
  rw [hos] at ha hb ⊢
  rw [← HSN.out]
  exact auts_comp HV.out HRI.out ha hb
 have hosN : ∀ o ∈ os, OrdO S o := fun o ho => by rw [← HSN.out]; exact (hosA o ho).ord
 have HOA := Lib.hid hosA
 have HON := Lib.hid hosN
 have HCO := Lib.hid hcomp
 obtain ⟨M, hM⟩ : ∃ M, M = os.length := ⟨_, rfl⟩
 rw [← hM] at hl4 hos0 hosF ⊢
 have HM := Lib.hid hM
 have HL4 := Lib.hid hl4
 have HB4 := Lib.hid hb4
 have hs4 : W3.heap.size ≤ w4.heap.size := hb4.size
 have HA0 := Lib.hid (b10At_any W3.heap.size M 0 a1 N1 c1 bs1 w4 HN1.out (HBY.out.grown (grown_below hb4 none) (fun k e => by cases e)) (.inl rfl) (by omega) (by omega))
 have HA1 := Lib.hid (b10At_any W3.heap.size M 1 a1 N1 c1 bs1 w4 HN1.out (HBY.out.grown (grown_below hb4 none) (fun k e => by cases e)) (.inr rfl) (by omega) (by omega))
 have hne : ∀ o ∈ os, o ≠ [] := fun o ho e => by
  have := (hosN o ho).len
  rw [e] at this
  simp at this
  omega
 have HNE := Lib.hid hne
 clear hos hosA hosN hcomp hM hl4 hb4 hne HBY
 go_wp2_with fail
 refine Calls.mono HA0.out ?_
 rintro e w5 ⟨⟨ra, rfl, hra⟩, rfl⟩
 have hraL : ra < os.length := by rw [← HM.out]; exact hra
 obtain ⟨lb, lo, ab, ao, ac, rfl, hlb, ca0, hac, hab, hacell, hasl⟩ := intss_row HL4.out hraL (HNE.out _ (List.getElem_mem _))
 obtain ⟨a, ha⟩ : ∃ a, a = os[ra] := ⟨_, rfl⟩
 have hama : a ∈ os := by rw [ha]; exact List.getElem_mem _
 rw [← ha, (HON.out a hama).len] at ca0 hac hacell hasl
 have HAC := Lib.hid hacell
 have HAM := Lib.hid hama
 have hraI : (ra : Int) < (M : Int) := by omega
 clear HA0 ha hama hacell hasl hraL
 go_wp2_with fail
 refine Calls.mono HA1.out ?_
 rintro e w5 ⟨⟨rc, rfl, hrc⟩, rfl⟩
 have hrcL : rc < os.length := by rw [← HM.out]; exact hrc
 obtain ⟨lb', lo', bb, bo, bc, hll, -, cb0, hbc, hbb, hbcell, hbsl⟩ := intss_row HL4.out hrcL (HNE.out _ (List.getElem_mem _))
 simp only [Option.some.injEq, Addr.mk.injEq, and_true] at hll
 obtain ⟨rfl, rfl⟩ := hll
 obtain ⟨b, hb⟩ : ∃ b, b = os[rc] := ⟨_, rfl⟩
 have hbmb : b ∈ os := by rw [hb]; exact List.getElem_mem _
 rw [← hb, (HON.out b hbmb).len] at cb0 hbc hbcell hbsl
 have HBC := Lib.hid hbcell
 have HBM := Lib.hid hbmb
 have hrcI : (rc : Int) < (M : Int) := by omega
 have x0 := (HT.out.below HB4.out).cell 0 rfl
 clear HA1 hb hbmb hbcell hbsl hrcL
 obtain ⟨W5, hW5⟩ : ∃ W5, W5 = w4.alloc (.cells #[] 2) := ⟨_, rfl⟩
 have hb5 : Below w4.heap.size w4 W5 := by rw [hW5]; exact (Below.refl _ _).alloc (Nat.le_refl _) _
 have HO5 : Hid (W5.ownsRow w4.heap.size 2 1 (.slice (some ⟨w4.heap.size, 0, none⟩) 0 0) 0 []) := by unfold Hid; rw [hW5]; exact ints_litD w4 _ (Nat.le_refl _)
 have HB5 := Lib.hid hb5
 have HW5 := Lib.hid hW5
 clear hb5 hW5
 go_wp2_with fail
 rw [← HW5.out]
 clear ca0 cb0 x0
 obtain ⟨both, hboth⟩ : ∃ both, both = compO S a b := ⟨_, rfl⟩
 have hbl : both.length = S := by rw [hboth]; simp [compO]
 have HBO := Lib.hid hboth
 have HBOL := Lib.hid hbl
 have HBMEM : Hid (both ∈ os) := by unfold Hid; rw [hboth]; exact HCO.out a HAM.out b HBM.out
 clear hboth hbl
 go_loopw [10, 11] (fun v10 v11 wr => ∃ (i : Nat) (p : Option Addr) (c : Nat), i ≤ S ∧ v10 = .slice p i c ∧ v11 = .int .i64 i ∧ Below w4.heap.size w4 wr ∧ wr.ownsRow w4.heap.size 2 1 (.slice p i c) i ((both.take i).map (Value.int .i64))) (fun _ v11 _ => S - (intOf v11).toNat)
 case atStart => exact ⟨0, _, _, Nat.zero_le _, rfl, rfl, HB5.out, HO5.out⟩
 case round =>
  clear HO5 HB5 HW5
  obtain ⟨i, p, c, hi, rfl, rfl, hbl, ho⟩ := hrel
  obtain ⟨wC, rfl⟩ : ∃ wC : World, wC = wr := ⟨_, rfl⟩
  have HBL := Lib.hid hbl
  have HO := Lib.hid ho
  have hszC := hbl.size
  have x0 := (HT.out.below (HB4.out.trans (hbl.mono hs4))).cell 0 rfl
  by_cases hlt : i < S
  ·have hbo := HON.out b HBM.out
   have hyl := hbo.at hlt
   have e1 := keeps hbl hbb (HBC.out i hlt)
   obtain ⟨y, hy⟩ : ∃ y : Nat, (y : Int) = b.getD i 0 := ⟨(b.getD i 0).toNat, by omega⟩
   rw [← hy] at e1
   have hyS : y < S := by omega
   have hyI : (y : Int) < (S : Int) := by omega
   have d1 : decide ((y : Int) < 0) = false := by rw [decide_eq_false_iff_not]; omega
   have d2 : decide ((S : Int) ≤ (y : Int)) = false := by rw [decide_eq_false_iff_not]; omega
   have hbbC : bb < wC.heap.size := Nat.lt_of_lt_of_le hbb hszC
   have htbC : tb < wC.heap.size := Nat.lt_of_lt_of_le HT.out.lt (Nat.le_trans hs4 hszC)
   have s0 := later_cell htbC x0
   have s1 := later_cell hbbC e1
   have HAT : Hid ((both.take (i + 1)).map (Value.int .i64) = (both.take i).map (Value.int .i64) ++ [.int .i64 (a.getD y 0)]) := by
    have hib : i < both.length := by rw [HBOL.out]; exact hlt
    unfold Hid
    rw [List.take_succ_eq_append_getElem hib, List.map_append, List.map_singleton]
    have h := compO_at a b (n := S) hlt
    rw [← HBO.out, getD_eq hib, ← hy, Int.toNat_natCast] at h
    rw [h]
   obtain ⟨x, hx⟩ : ∃ x, x = a.getD y 0 := ⟨_, rfl⟩
   rw [← hx] at HAT
   have HX := Lib.hid hx
   have HE1 := Lib.hid e1
   have HX0 := Lib.hid x0
   clear hbl ho hbo hyl hy hx e1
   go_wp2
   refine wp_region_later (by kernel_rfl) (by kernel_rfl) ?_
   repeat (go_big_quiet_step ((fail)))
   refine wpQuiet_nil ?_
   intro _ hw9
   obtain ⟨nl, hw8⟩ := hw9
   subst hw8
   obtain ⟨wD, hwD⟩ : ∃ wD, wD = nl.w := ⟨_, rfl⟩
   have hbD : Below wC.heap.size wC wD := by rw [hwD]; exact nl.h
   rw [← hwD]
   clear s0 s1 d1 d2 hwD nl x0
   have e1 := keeps hbD hbbC HE1.out
   have e2 := keeps (HBL.out.trans (hbD.mono hszC)) hab (HAC.out y hyS)
   rw [← HX.out] at e2
   have hbwD : Below w4.heap.size w4 wD := HBL.out.trans (hbD.mono hszC)
   have HBD := Lib.hid hbwD
   have HOD := Lib.hid (owns_below HO.out hbD)
   have hszD : w4.heap.size ≤ wD.heap.size := hbwD.size
   clear hbD hbwD
   go_wp2_with (at_builtin; refine wpList_append_own _ rfl _ _ 32 rfl w4.heap.size 2 i1 (.int .i64 0) 1 8 Tryz.underlying32 hi1 hy0 hy1 hy2 rfl (by decide) _ i _ rfl (HOD.out.alloc _) ⟨wD.heap.size, 0, none⟩ 1 1 [.int .i64 x] rfl rfl ?c1 ?c2 ?c3 ?c4 ?c5 ?_)
   case c1 => exact World.news_of_block (cs := #[.int .i64 x]) (t := 2) (fr := (0, 0)) (heap_alloc_new _ _)
   case c2 => intro u hu; simp at hu; subst hu; rfl
   case c3 => simp [maxLen]; omega
   case c4 => omega
   case c5 => first | omega | (simp; omega)
   intro v6 w6 ho6 hg6 _
   obtain ⟨a6, c6, rfl, -, -⟩ := owns_slice ho6
   have HB6 : Hid (Below w4.heap.size w4 w6) := (HBD.out.alloc hszD _).grown hg6 (by simp; omega) (fun b e => (HOD.out.lt b e).1)
   have HO6 : Hid (w6.ownsRow w4.heap.size 2 1 (.slice a6 (i + 1) c6) (i + 1) ((both.take (i + 1)).map (Value.int .i64))) := by unfold Hid; rw [HAT.out, List.map_take]; exact ho6
   clear ho6 hg6 e1 e2
   go_wp2
   go_roundw
   case rel => exact ⟨i + 1, a6, c6, by omega, rfl, by go_num, HB6.out, HO6.out⟩
   case measure => simp [intOf]; omega
  ·obtain rfl : i = S := by omega
   have hbsl2 : SliceK 1 encI w4.heap.size wC (.slice p i c) both := by
    have h := ho
    rw [List.take_of_length_le (by rw [HBOL.out]; exact Nat.le_refl _)] at h
    exact SliceK.of_owns (e := 2) encI_len HBOL.out.symm (by rw [flat_encI]; exact h)
   have HBS := Lib.hid hbsl2
   have hBC : Below W3.heap.size W3 wC := HB4.out.trans (hbl.mono hs4)
   have HBCC := Lib.hid hBC
   have HLC := Lib.hid (HL4.out.below hbl)
   have hsC : W3.heap.size ≤ wC.heap.size := hBC.size
   clear hbl ho hbsl2 hBC HBL HO
   go_wp2
   go_loopw [12, 13] (fun v12 v13 wr => ∃ (k : Nat) (fnd : Bool), k ≤ M ∧ v12 = .bool fnd ∧ v13 = .int .i64 k ∧ Below wC.heap.size wC wr ∧ fnd = (os.take k).any (fun o => o == both)) (fun _ v13 _ => M - (intOf v13).toNat)
   case atStart => exact ⟨0, false, Nat.zero_le _, rfl, rfl, Below.refl _ _, rfl⟩
   case round =>
    clear x0
    obtain ⟨k, fnd, hk, rfl, rfl, hbl, hf⟩ := hrel
    obtain ⟨wE, rfl⟩ : ∃ wE : World, wE = wr := ⟨_, rfl⟩
    have HBE := Lib.hid hbl
    have HFN := Lib.hid hf
    have hszE := hbl.size
    by_cases hlk : k < M
    ·have hkL : k < os.length := by rw [← HM.out]; exact hlk
     have hat := any_takeA (x := both) hkL
     rw [← hf] at hat
     cases fnd
     ·obtain ⟨b9, o9, xb, xo, xc, e9, -, c9, -, -, -, hsl9⟩ := intss_row (HLC.out.below hbl) hkL (HNE.out _ (List.getElem_mem _))
      simp only [Option.some.injEq, Addr.mk.injEq, and_true] at e9
      obtain ⟨rfl, rfl⟩ := e9
      obtain ⟨o, ho⟩ : ∃ o, o = os[k] := ⟨_, rfl⟩
      rw [← ho] at c9 hsl9 hat
      have hNU := b10Nums_any _ _ _ _ o both wE hsl9 (HBS.out.below hbl)
      rw [(HON.out o (by rw [ho]; exact List.getElem_mem _)).len] at c9 hNU
      have HNU := Lib.hid hNU
      obtain ⟨q, hq⟩ : ∃ q, q = (o == both) := ⟨_, rfl⟩
      rw [← hq] at HNU hat
      have HAT : Hid (q = (os.take (k + 1)).any (fun o => o == both)) := by unfold Hid; rw [hat]; rfl
      clear hbl hf hat ho hq hsl9 hNU hkL
      go_wp2_with fail
      refine Calls.mono HNU.out ?_
      rintro e w7 ⟨rfl, hb7⟩
      have HB7 := Lib.hid (HBE.out.trans (hb7.mono hszE))
      clear hb7 HNU c9
      go_wp2
      go_roundw
      case rel => exact ⟨k + 1, q, by omega, rfl, by go_num, HB7.out, HAT.out⟩
      case measure => simp [intOf]; omega
     ·have HAT : Hid (true = (os.take (k + 1)).any (fun o => o == both)) := by unfold Hid; rw [hat]; rfl
      clear hbl hf hat hkL
      go_wp2
      go_roundw
      case rel => exact ⟨k + 1, true, by omega, rfl, by go_num, HBE.out, HAT.out⟩
      case measure => simp [intOf]; omega
    ·have hkM : k = os.length := by have := HM.out; omega
     have hft : fnd = true := by
      rw [hf, hkM, List.take_length, List.any_eq_true]
      exact ⟨both, HBMEM.out, beq_self_eq_true both⟩
     have hBE : Below W3.heap.size W3 wE := HBCC.out.trans (hbl.mono hsC)
     have HBW := Lib.hid hBE
     have hIA := IsAutomorphism_any w.heap.size w4.heap.size t _ _ _ both wE HV.out (by have := HS.out; omega) HSH.out HRI.out (HOA.out both HBMEM.out) (HL.out.below hBE) (HE.out.below hBE) (HBS.out.below hbl) (HG3.out.below hBE)
     rw [← HS.out] at hIA
     have HIA := Lib.hid hIA
     have HLE := Lib.hid (HLC.out.below hbl)
     have hT8 := HT.out.below hBE
     have x0 := hT8.cell 0 rfl
     have x1 := hT8.cell 1 rfl
     have x2 := hT8.cell 2 rfl
     have x3 := hT8.cell 3 rfl
     have hsE : W3.heap.size ≤ wE.heap.size := hBE.size
     subst hft
     clear hbl hf hkM hBE hIA hT8
     go_wp2_with fail
     refine Calls.mono HIA.out ?_
     rintro e w8 ⟨rfl, hb8⟩
     have hB8 : Below W3.heap.size W3 w8 := HBW.out.trans (hb8.mono hsE)
     have HB8 := Lib.hid hB8
     have hOP := OrbitPartition_any w.heap.size W3.heap.size i t _ _ _ os w8 HV.out HS.out hS6 HSH.out HRI.out HOA.out (by rw [← HM.out]; exact hosF) (HL.out.below hB8) (HE.out.below hB8) (HLE.out.below hb8) (HG3.out.below hB8)
     rw [← HS.out] at hOP
     have HOP := Lib.hid hOP
     clear x0 x1 x2 x3 HIA
     have hT8 := HT.out.below hB8
     have x0 := hT8.cell 0 rfl
     have x1 := hT8.cell 1 rfl
     have x2 := hT8.cell 2 rfl
     have x3 := hT8.cell 3 rfl
     have hs8 : W3.heap.size ≤ w8.heap.size := hB8.size
     clear hb8 hB8 hOP hT8
     go_wp2_with fail
     refine Calls.mono HOP.out ?_
     rintro e w9 ⟨pa, pc, rfl, hb9, ho9⟩
     have hB9 : Below W3.heap.size W3 w9 := HB8.out.trans (hb9.mono hs8)
     have HB9 := Lib.hid hB9
     have hSC := StrongClasses_any w.heap.size i t _ _ w9 HV.out HS.out HSH.out (HL.out.below hB9) (HE.out.below hB9) (HG3.out.below hB9)
     rw [← HS.out] at hSC
     have HSC := Lib.hid hSC
     obtain ⟨P, hP⟩ : ∃ P, P = normL (leadO i (pairsO os)) := ⟨_, rfl⟩
     have hPl : P.length = i := by rw [hP, normL_len, leadO_len]
     rw [← hP] at ho9
     have HSP : Hid (SliceK 1 encI w8.heap.size w9 (.slice pa i pc) P) := SliceK.of_owns (e := 2) encI_len hPl.symm (by rw [flat_encI]; exact ho9)
     have HP := Lib.hid hP
     have HPL := Lib.hid hPl
     clear x0 x1 x2 x3 HOP
     have hT9 := HT.out.below hB9
     have x0 := hT9.cell 0 rfl
     have x1 := hT9.cell 1 rfl
     have x2 := hT9.cell 2 rfl
     have x3 := hT9.cell 3 rfl
     have hs9 : W3.heap.size ≤ w9.heap.size := hB9.size
     clear hb9 hB9 ho9 hSC hT9 hP hPl
     go_wp2_with fail
     refine Calls.mono HSC.out ?_
     rintro e w10 ⟨qa, qc, rfl, hb10, ho10⟩
     have hB10 : Below W3.heap.size W3 w10 := HB9.out.trans (hb10.mono hs9)
     have HB10 := Lib.hid hB10
     obtain ⟨Q, hQ⟩ : ∃ Q, Q = lev t (lastR t) := ⟨_, rfl⟩
     have hQl : Q.length = i := by rw [hQ, lev_len, HSN.out]
     rw [← hQ] at ho10
     have hSQ : SliceK 1 encI w9.heap.size w10 (.slice qa i qc) Q := SliceK.of_owns (e := 2) encI_len hQl.symm (by rw [flat_encI]; exact ho10)
     have hRP := RefinesPartition_any w8.heap.size w9.heap.size (.slice pa i pc) (.slice qa i qc) P Q w10 (HSP.out.below hb10) hSQ (by rw [hQl, HPL.out]) (by rw [HPL.out]; exact hS1) (by rw [HPL.out]; omega)
      (fun x hx => by
       rw [HP.out] at hx
       have := normL_range hx
       rw [leadO_len] at this
       unfold I64
       omega)
      (fun x hx => by
       rw [hQ] at hx
       have := (lev_in HV.out (lastR t)).2 x hx
       have := HS.out
       unfold I64
       omega)
      (by rw [HP.out]; exact lead_norm _ _) (by rw [hQ]; exact lev_norm t _)
      (by rw [HP.out, hQ, ← HSN.out]; exact aut_refines HV.out HOA.out (lastR t))
     have HRP := Lib.hid hRP
     have hs10 : W3.heap.size ≤ w10.heap.size := hB10.size
     clear hb10 hB10 ho10 hQ hQl hSQ hRP x0 x1 x2 x3 HSC
     go_wp2_with fail
     refine Calls.mono HRP.out ?_
     rintro e w11 ⟨rfl, hb11⟩
     have HB11 : Hid (Below w.heap.size w w11) := HB3.out.trans ((HB10.out.trans (hb11.mono hs10)).mono hs3)
     clear hb11 HRP
     go_wp2
     go_ret
     exact ⟨rfl, HB11.out⟩

end Go.Proofs.YtifoinannefcpaaGreatDoor
