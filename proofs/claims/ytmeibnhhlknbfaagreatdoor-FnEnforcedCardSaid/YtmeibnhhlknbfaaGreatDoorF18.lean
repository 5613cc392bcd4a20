/-
  The reference's l30Verdict.
  What the reference computes: the pairs that can stay.
-/
import Derived.Test.YtmeibnhhlknbfaaGreatDoorF17
import Derived.Test.YtmeibnhhlknbfaaGreatDoorF16
import Derived.StillTailTactics
namespace Go.Proofs.YtmeibnhhlknbfaaGreatDoor
open Go Go.RowKit

set_option maxRecDepth 100000 in
set_option maxHeartbeats 4000000 in
theorem l30Verdict_any (bp lo lo2 g1 g2 N B : Nat) (p : Lts) (c d : List Bool) (sv : Value) (xs : List Int) (y : Int) (w : World) (hvp : Valid p) (hp : LtsPtr lo w bp p) (hc : w.ownsRow B 4 1 (.slice (some ⟨g1, 0, none⟩) N N) N (c.map Value.bool)) (hd : w.ownsRow B 4 1 (.slice (some ⟨g2, 0, none⟩) N N) N (d.map Value.bool))
  (hs : SliceK 1 encI lo2 w sv xs) (hx : ∀ x ∈ xs, 0 ≤ x ∧ x.toNat * p.states.toNat + p.states.toNat ≤ N) (hy : y < p.states) (hxl : xs.length ≤ 1000) (hN : N ≤ 1600) :
  Calls Tryz.prog 43 #[.pointer (some ⟨bp, 0, none⟩), .slice (some ⟨g1, 0, none⟩) N N, .slice (some ⟨g2, 0, none⟩) N N, sv, .int .i64 y] w fun e w' => e = .returned (.int .i64 (vdL p c d xs y)) ∧ Below w.heap.size w w' := by
 obtain ⟨P, hP⟩ : ∃ P : Nat, (P : Int) = p.states := ⟨p.states.toNat, by have := hvp.st0; omega⟩
 have hP40 : P ≤ 40 := by have := hvp.st1; omega
 obtain ⟨sa, sc, rfl, -, -, hrow⟩ := hs
 obtain ⟨_, _, hbp, b0, -, -, -, -, -⟩ := hp
 rw [← hP] at b0
 have HB0 := Lib.hid b0
 have HR := Lib.hid hrow
 have HC := Lib.hid hc
 have HD := Lib.hid hd
 have HX := Lib.hid hx
 have HPP := Lib.hid hP
 obtain ⟨M, hM⟩ : ∃ M, M = xs.length := ⟨_, rfl⟩
 rw [← hM] at hxl ⊢
 have HM := Lib.hid hM
 rw [← hP] at hy
 clear hrow hc hd hx hM hP hvp b0
 by_cases hneg : y < 0
 ·have HF : Hid (vdL p c d xs y = 2) := by unfold Hid vdL; rw [if_pos hneg]
  go_enter Tryz.func43, Tryz.ntmps43
  go_wp2
  go_ret
  exact ⟨ret_int HF.out.symm, Below.refl _ _⟩
 ·obtain ⟨q, rfl⟩ : ∃ q : Nat, y = q := ⟨y.toNat, by omega⟩
  have hq : q < P := by omega
  have HV : Hid (vdL p c d xs q = if inV p c xs q = false then 1 else if inV p d xs q = false then 2 else 0) := by unfold Hid vdL; rw [if_neg hneg]
  go_enter Tryz.func43, Tryz.ntmps43
  go_wp2
  go_loopw [11, 12, 13] (fun v11 v12 v13 wr => ∃ k : Nat, k ≤ M ∧ v13 = .int .i64 k ∧ v11 = .bool (inV p c (xs.take k) q) ∧ v12 = .bool (inV p d (xs.take k) q) ∧ Below w.heap.size w wr) (fun _ _ v13 _ => M - (intOf v13).toNat)
  case atStart => exact ⟨0, Nat.zero_le _, rfl, rfl, rfl, Below.refl _ _⟩
  case round =>
   obtain ⟨k, hk, rfl, rfl, rfl, hbl⟩ := hrel
   obtain ⟨wC, rfl⟩ : ∃ wC : World, wC = wr := ⟨_, rfl⟩
   have HBL := Lib.hid hbl
   have hsz := hbl.size
   by_cases hlt : k < M
   ·have hlt2 : k < xs.length := by rw [← HM.out]; exact hlt
    obtain ⟨b, o, rfl, -, hbw, cx⟩ := (HR.out.below hbl).one hlt2
    simp only [encI, List.getElem?_cons_zero] at cx
    have HNA := Lib.hid (inV_succ p c q hlt2)
    have HNB := Lib.hid (inV_succ p d q hlt2)
    have hxx := HX.out _ (List.getElem_mem hlt2)
    obtain ⟨x, hxe⟩ : ∃ x, x = xs[k] := ⟨_, rfl⟩
    rw [← hxe] at cx HNA HNB hxx
    obtain ⟨xn, rfl⟩ : ∃ xn : Nat, x = xn := ⟨x.toNat, by omega⟩
    obtain ⟨m, hm⟩ : ∃ m : Nat, m = xn * P := ⟨_, rfl⟩
    have hmi : (xn : Int) * (P : Int) = (m : Int) := by rw [hm]; simp
    have hmq : m + q < N := by
     have h := hxx.2
     rw [← HPP.out] at h
     simp only [Int.toNat_natCast] at h
     omega
    rw [idx_nat HPP.out, ← hm] at HNA HNB
    obtain ⟨b1, hb1⟩ : ∃ b1, b1 = c.getD (m + q) false := ⟨_, rfl⟩
    obtain ⟨b2, hb2⟩ : ∃ b2, b2 = d.getD (m + q) false := ⟨_, rfl⟩
    have HE1 := Lib.hid hb1
    have HE2 := Lib.hid hb2
    rw [← hb1] at HNA
    rw [← hb2] at HNB
    obtain ⟨A, hA⟩ : ∃ A, A = inV p c (xs.take k) q := ⟨_, rfl⟩
    obtain ⟨A2, hA2⟩ : ∃ A2, A2 = inV p d (xs.take k) q := ⟨_, rfl⟩
    rw [← hA] at HNA ⊢
    rw [← hA2] at HNB ⊢
    have l0 := later_cell (Nat.lt_of_lt_of_le hbp hsz) (keeps hbl hbp HB0.out)
    have l1 := later_cell hbw cx
    have c1 := cell_bool (owns_below HC.out hbl) hmq
    rw [← HE1.out] at c1
    have l2 := later_cell (World.block_lt_of_cell? _ _ c1) c1
    have CX := Lib.hid cx
    clear hbl hxe hxx hm hb1 hb2 hA hA2 c1 cx
    cases A <;> cases A2
    all_goals (
     go_wp2
     refine wp_region_later (by kernel_rfl) (by kernel_rfl) ?_
     repeat (go_big_quiet_step ((fail)))
     refine wpQuiet_nil ?_
     intro _ hw9
     obtain ⟨nl, hw8⟩ := hw9
     subst hw8
     obtain ⟨w2, hw2⟩ : ∃ w2, w2 = nl.w := ⟨_, rfl⟩
     have hq2 : Below wC.heap.size wC w2 := by rw [hw2]; exact nl.h
     rw [← hw2]
     have HQ2 := Lib.hid (HBL.out.trans (hq2.mono hsz))
     have hs2 := HQ2.out.size
     have l3 := later_cell (Nat.lt_of_lt_of_le hbp hs2) (keeps HQ2.out hbp HB0.out)
     have l4 := later_cell (Nat.lt_of_lt_of_le hbw hq2.size) (keeps hq2 hbw CX.out)
     have c2 := cell_bool (owns_below HD.out HQ2.out) hmq
     rw [← HE2.out] at c2
     have l5 := later_cell (World.block_lt_of_cell? _ _ c2) c2
     clear l0 l1 l2 hq2 hw2 nl c2
     go_wp2
     refine wp_region_later (by kernel_rfl) (by kernel_rfl) ?_
     repeat (go_big_quiet_step ((fail)))
     refine wpQuiet_nil ?_
     intro _ hw9
     obtain ⟨nl, hw8⟩ := hw9
     subst hw8
     have HQ3 := Lib.hid (HQ2.out.trans (nl.h.mono hs2))
     clear l3 l4 l5
     go_wp2
     go_roundw
     case rel => exact ⟨k + 1, by omega, by go_num, by rw [HNA.out]; first | rfl | simp, by rw [HNB.out]; first | rfl | simp, HQ3.out⟩
     case measure => simp [intOf]; omega)
   ·obtain rfl : k = M := by omega
    have hall : xs.take k = xs := by rw [HM.out, List.take_length]
    rw [hall]
    obtain ⟨A, hA⟩ : ∃ A, A = inV p c xs q := ⟨_, rfl⟩
    obtain ⟨A2, hA2⟩ : ∃ A2, A2 = inV p d xs q := ⟨_, rfl⟩
    rw [← hA, ← hA2] at HV
    rw [← hA, ← hA2]
    clear hbl hall hA hA2
    cases A
    ·go_wp2
     go_ret
     exact ⟨ret_int HV.out.symm, HBL.out⟩
    ·cases A2
     ·go_wp2
      go_ret
      exact ⟨ret_int HV.out.symm, HBL.out⟩
     ·go_wp2
      go_ret
      exact ⟨ret_int HV.out.symm, HBL.out⟩

end Go.Proofs.YtmeibnhhlknbfaaGreatDoor

namespace Go.Proofs.YtmeibnhhlknbfaaGreatDoor
open Go Go.RowKit

theorem info_bool : (Tryz.prog.info? 4).map (fun i => (i.zero, i.size, i.bytes)) = some (some (.bool false), 1, 1) := by kernel_rfl

/-- The list of marks. -/
def MadeRest (t p : Lts) (w : World) (e : Ending) (w' : World) : Prop :=
 ∃ c : List Bool, e = .returned (.slice (some ⟨w.heap.size, 0, none⟩) c.length c.length) ∧ Below w.heap.size w w' ∧ w.heap.size < w'.heap.size
  ∧ w'.ownsRow w.heap.size 4 1 (.slice (some ⟨w.heap.size, 0, none⟩) c.length c.length) c.length (c.map Value.bool) ∧ c.length = t.states.toNat * p.states.toNat ∧ Rest t p (List.replicate (t.states.toNat * p.states.toNat) true) c

/-- What holds of the marks ahead of a sweep. -/
structure OuterRel (t p : Lts) (N B : Nat) (w wr : World) (gk : Nat) (b : Bool) (c : List Bool) : Prop where
 len : c.length = N
 iter : ∃ n, c = sweeps t p n (List.replicate N true)
 rest : b = false → sweepB t p c = c
 left : 2 * c.count true + b.toNat ≤ gk
 below : Below w.heap.size w wr
 grown : w.heap.size < wr.heap.size
 own : wr.ownsRow B 4 1 (.slice (some ⟨B, 0, none⟩) N N) N (c.map Value.bool)

/-- What holds of the marks within a sweep. -/
structure InnerRel (N B : Nat) (w wr : World) (c0 c : List Bool) (b : Bool) : Prop where
 less : Less c0 c b
 below : Below w.heap.size w wr
 grown : w.heap.size < wr.heap.size
 own : wr.ownsRow B 4 1 (.slice (some ⟨B, 0, none⟩) N N) N (c.map Value.bool)

set_option maxRecDepth 100000 in
set_option maxHeartbeats 4000000 in
theorem l30Stay_any (bt bp lo : Nat) (t p : Lts) (w : World) (hvt : Valid t) (hvp : Valid p) (ht : LtsPtr lo w bt t) (hp : LtsPtr lo w bp p) :
  Calls Tryz.prog 41 #[.pointer (some ⟨bt, 0, none⟩), .pointer (some ⟨bp, 0, none⟩)] w (MadeRest t p w) := by
 have HT := Lib.hid ht
 have HP := Lib.hid hp
 have VT := Lib.hid hvt
 have VP := Lib.hid hvp
 obtain ⟨S, hS⟩ : ∃ S : Nat, (S : Int) = t.states := ⟨t.states.toNat, by have := hvt.st0; omega⟩
 obtain ⟨P, hP⟩ : ∃ P : Nat, (P : Int) = p.states := ⟨p.states.toNat, by have := hvp.st0; omega⟩
 have hS1 : 1 ≤ S := by have := hvt.st0; omega
 have hS2 : S ≤ 40 := by have := hvt.st1; omega
 have hP1 : 1 ≤ P := by have := hvp.st0; omega
 have hP2 : P ≤ 40 := by have := hvp.st1; omega
 have hSP : S * P ≤ 1600 := Nat.mul_le_mul hS2 hP2
 obtain ⟨N, hN⟩ : ∃ N : Nat, N = S * P := ⟨_, rfl⟩
 have hNi : (S : Int) * (P : Int) = (N : Int) := by rw [hN]; simp
 have hN2 : N ≤ 1600 := by omega
 obtain ⟨i0, hi, hz0, hz1, hz2⟩ := info_parts info_bool
 obtain ⟨_, _, hbt, a0, -, -, -, -, -⟩ := ht
 obtain ⟨_, _, hbp, b0, -, -, -, -, -⟩ := hp
 rw [← hS] at a0
 rw [← hP] at b0
 have HA0 := Lib.hid a0
 have HB0 := Lib.hid b0
 have HSS := Lib.hid hS
 have HPP := Lib.hid hP
 have HNN := Lib.hid hN
 clear hS hP hN hSP hvt hvp
 go_enter Tryz.func41, Tryz.ntmps41
 go_wp2
 go_still_tail 9, (by kernel_rfl)
 have hwN : IntKind.i64.wrap (N : Int) = (N : Int) := IntWalk.i64_in _ (by omega)
 refine wpList_make_full _ rfl _ _ 75 rfl w.heap.size 4 i0 _ 1 Tryz.underlying75 hi hz0 hz1 .i64 .i64 _ _ N rfl rfl hwN hwN ?_ ?_ ?_ ?_
 ·rw [hz2]; omega
 ·simp [maxLen]; omega
 ·exact Nat.le_refl _
 intro w1 ho hg
 have hb1 : Below w.heap.size w w1 := ((Below.refl _ w).drew).grown hg (Nat.le_refl _) (fun _ h => by cases h)
 have hs1 : w.heap.size < w1.heap.size := (ho.lt _ rfl).2
 have hmk : (madeCells (Value.bool false).cells (N * 1)).toList = List.replicate N (.bool false) := by rw [Nat.mul_one]; exact toList_madeCells_one _ _
 have HO : Hid (w1.ownsRow w.heap.size 4 1 (.slice (some ⟨w.heap.size, 0, none⟩) N N) N (List.replicate N (.bool false))) := by unfold Hid; rw [← hmk]; exact ho
 clear hmk
 have HB1 := Lib.hid hb1
 clear hi hz0 hz1 hz2 i0 ho hg hb1 a0 b0
 go_wp2
 go_loopw [6] (fun i wr => ∃ k : Nat, k ≤ N ∧ i = .int .i64 k ∧ Below w.heap.size w wr ∧ w.heap.size < wr.heap.size ∧ wr.ownsRow w.heap.size 4 1 (.slice (some ⟨w.heap.size, 0, none⟩) N N) N (((List.replicate N true).take k).map Value.bool ++ List.replicate ((List.replicate N true).length - k) (.bool false))) (fun i _ => N - (intOf i).toNat)
 case atStart => exact ⟨0, Nat.zero_le _, rfl, HB1.out, hs1, by simpa using HO.out⟩
 case round =>
  obtain ⟨k, hk, rfl, hbl, hsz, ho⟩ := hrel
  have HBL := Lib.hid hbl
  clear hbl HO HB1
  by_cases hlt : k < N
  ·have hltr : k < (List.replicate N true).length := by simpa using hlt
   have c2 := ho.cellAt k (by omega)
   rw [filled_get _ _ _ _ hltr] at c2
   have c3 := ho.frozenAt k
   have ho2 := (ho.stored k (.bool true)).1
   have hset := filled_set (List.replicate N true) Value.bool (.bool false) k hltr
   rw [List.getElem_replicate] at hset
   rw [hset] at ho2
   have HO2 := Lib.hid ho2
   clear ho ho2 hset
   go_wp2
   go_roundw
   case rel => exact ⟨k + 1, by omega, by go_num, HBL.out.setCell (by exact Nat.le_refl _) _, by simpa using hsz, HO2.out⟩
   case measure => simp [intOf]; omega
  ·obtain rfl : N = k := by omega
   have HO := Lib.hid (show wr.ownsRow w.heap.size 4 1 (.slice (some ⟨w.heap.size, 0, none⟩) N N) N ((List.replicate N true).map Value.bool) by simpa using ho)
   clear ho
   go_wp2
   go_loopg [7] (2 * N + 1) (fun gk v7 wr => ∃ (c : List Bool) (b : Bool), v7 = .bool b ∧ OuterRel t p N w.heap.size w wr gk b c)
   case atStart => exact ⟨List.replicate N true, true, rfl, by simp, ⟨0, rfl⟩, (fun h => by cases h), by simp, HBL.out, hsz, HO.out⟩
   case round =>
    obtain ⟨c, b, rfl, hrel⟩ := hrel
    have HR := Lib.hid hrel
    have hcl := hrel.len
    clear hrel HO HBL hsz
    cases b
    ·go_wp2
     go_ret
     refine ⟨c, ?_, HR.out.below, HR.out.grown, ?_, ?_, ?_, HR.out.rest rfl⟩
     ·rw [hcl]; rfl
     ·rw [hcl]; exact HR.out.own
     ·rw [hcl, HNN.out, ← HSS.out, ← HPP.out]; simp
     ·rw [← HSS.out, ← HPP.out]; simp only [Int.toNat_natCast]; rw [← HNN.out]; exact HR.out.iter
    ·go_wp2
     go_loopw [7, 8] (fun v7 v8 wr => ∃ (k : Nat) (b : Bool), v7 = .bool b ∧ v8 = .int .i64 k ∧ k ≤ S ∧ InnerRel N w.heap.size w wr c (sweepTo t p k c) b) (fun _ v8 _ => S - (intOf v8).toNat)
     case atStart => exact ⟨0, false, rfl, rfl, Nat.zero_le _, Less.refl _, HR.out.below, HR.out.grown, HR.out.own⟩
     case round =>
      obtain ⟨k, b, rfl, rfl, hkS, hin⟩ := hrel
      have HI := Lib.hid hin
      have a0 := keeps hin.below hbt HA0.out
      have hg3 := hin.grown
      clear hin
      by_cases hlt : k < S
      ·go_wp2_with fail
       refine (l11Out_any _ lo t _ _ (by have := VT.out.most; omega) (HT.out.below HI.out.below)).mono ?_
       rintro e w9 ⟨lv, rfl, hb9, hol⟩
       have hl9 := SliceK.of_owns (enc := encE) encE_len rfl hol
       have HL9 := Lib.hid hl9
       obtain ⟨al, cl, rfl, hcl1, hcl2, -⟩ := hl9
       have HB9 := Lib.hid hb9
       have hs9 := hb9.size
       have HI9 : Hid (InnerRel N w.heap.size w w9 c (sweepTo t p k c) b) := ⟨HI.out.less, HI.out.below.trans (hb9.mono HI.out.below.size), by omega, owns_below HI.out.own hb9⟩
       have hlen300 : (outOf t k).length ≤ 300 := Nat.le_trans (List.length_filter_le _ _) VT.out.most
       clear hb9 hol a0
       generalize hck : sweepTo t p k c = ck at *
       have HCK := Lib.hid hck
       clear hck
       go_wp2
       go_loopw [7, 10] (fun v7 v10 wr => ∃ (q : Nat) (b : Bool), v7 = .bool b ∧ v10 = .int .i64 q ∧ q ≤ P ∧ InnerRel N w.heap.size w wr c (rowTo t p k q ck) b ∧ SliceK 3 encE (w.heap.size + 1) wr (.slice al (outOf t k).length cl) (outOf t k)) (fun _ v10 _ => P - (intOf v10).toNat)
       case atStart => exact ⟨0, b, rfl, rfl, Nat.zero_le _, by rw [rowTo_zero]; exact HI9.out, HL9.out.mono (by omega)⟩
       case round =>
        obtain ⟨q, b4, rfl, rfl, hqP, hin4, hl4⟩ := hrel
        have HI4 := Lib.hid hin4
        have HL4 := Lib.hid hl4
        have b0 := keeps hin4.below hbp HB0.out
        clear hin4 hl4 HI9
        by_cases hq : q < P
        ·obtain ⟨m, hm⟩ : ∃ m : Nat, m = k * P := ⟨_, rfl⟩
         have hmq : m + q < N := by rw [hm, HNN.out]; exact pair_lt hlt hq
         have hmi : (k : Int) * (P : Int) = (m : Int) := by rw [hm]; simp
         have hix : idx p k q = m + q := by rw [idx_nat HPP.out, hm]
         have HIX := Lib.hid hix
         have HM := Lib.hid hm
         generalize hcq : rowTo t p k q ck = cq at *
         have HCQ := Lib.hid hcq
         have HS1 : Hid (rowTo t p k (q + 1) ck = stepB t p k q cq) := by unfold Hid; rw [rowTo_succ, hcq]
         have c1 := cell_bool HI4.out.own hmq
         clear hm hix hcq
         cases hcg : cq.getD (m + q) false
         ·have HST : Hid (stepB t p k q cq = cq) := stepB_no1 (by rw [HIX.out]; exact hcg)
          rw [hcg] at c1
          clear hcg
          go_wp2
          go_roundw
          case rel => exact ⟨q + 1, b4, rfl, by go_num, by omega, by rw [HS1.out, HST.out]; exact HI4.out, HL4.out⟩
          case measure => simp [intOf]; omega
         ·rw [hcg] at c1
          have HCG := Lib.hid hcg
          clear hcg
          by_cases hle : (outOf t k).length = 0
          ·have hle' : (((outOf t k).length : Int) == 0) = true := by simp [hle]
           have HST : Hid (stepB t p k q cq = cq) := stepB_no2 (by rw [List.isEmpty_iff]; exact List.eq_nil_of_length_eq_zero hle)
           clear hle
           go_wp2
           go_roundw
           case rel => exact ⟨q + 1, b4, rfl, by go_num, by omega, by rw [HS1.out, HST.out]; exact HI4.out, HL4.out⟩
           case measure => simp [intOf]; omega
          ·have hle' : (((outOf t k).length : Int) == 0) = false := by rw [beq_eq_false_iff_ne]; omega
           have HNE : Hid ((outOf t k).isEmpty = false) := by
            unfold Hid
            cases h : outOf t k with
            | nil => rw [h] at hle; simp at hle
            | cons a r => rfl
           clear hle
           go_wp2
           obtain ⟨wo, rfl⟩ : ∃ wo : World, wo = wr := ⟨_, rfl⟩
           obtain ⟨al', cl', hv, -, -, hrow4⟩ := HL4.out
           simp only [Value.slice.injEq, true_and] at hv
           obtain ⟨rfl, rfl⟩ := hv
           have hdel : ∃ L, L = outOf t k := ⟨_, rfl⟩
           obtain ⟨L, hL⟩ := hdel
           rw [← hL] at hrow4 hle' hlen300 HL4 HNE HL9 ⊢
           have HLL := Lib.hid hL
           clear hL b0 c1
           go_loopw [12, 13] (fun v12 v13 w5 => ∃ j : Nat, j ≤ L.length ∧ v13 = .int .i64 j ∧ v12 = .bool (anyTo t p cq L q j) ∧ Below wo.heap.size wo w5) (fun _ v13 _ => L.length - (intOf v13).toNat)
           case atStart => exact ⟨0, Nat.zero_le _, rfl, rfl, Below.refl _ _⟩
           case round =>
            obtain ⟨j, hj, rfl, rfl, hb5⟩ := hrel
            have HB5 := Lib.hid hb5
            have HW5 : Hid (Below w.heap.size w wr) := HI4.out.below.trans (hb5.mono HI4.out.below.size)
            have hs5 := hb5.size
            clear hb5
            by_cases hjl : j < L.length
            ·obtain ⟨bl, ol, rfl, -, hbl, e1, e2, e3⟩ := (hrow4.below HB5.out).edge hjl
             have hek : EdgeOk t L[j] := outOf_ok VT.out k _ (by rw [← HLL.out]; exact List.getElem_mem _)
             have HEK := Lib.hid hek
             have HAS := Lib.hid (anyTo_succ t p cq L q j hjl)
             have hzr := toState_range (t := t) VP.out L[j] (q := (q : Int)) (by omega) (by have := HPP.out; omega)
             have hds0 := hek.d0
             have hds1 := hek.d1
             have hee : ∃ e, e = L[j] := ⟨_, rfl⟩
             obtain ⟨e, hee⟩ := hee
             rw [← hee] at e1 e2 e3 HEK HAS hzr hds0 hds1
             rw [← HSS.out] at hds1
             rw [← HPP.out] at hzr
             clear hee hek hrow4
             go_wp2_with fail
             refine (l30To_any bt bp bl (ol + j * 3) lo t p e _ _ VP.out.edge HEK.out (HT.out.below HW5.out) (HP.out.below HW5.out) hbl ⟨e1, e2, e3⟩).mono ?_
             rintro r w6 ⟨rfl, hb6⟩
             have HB6 := Lib.hid hb6
             have hs6 := hb6.size
             have hgw : w.heap.size < wr.heap.size := by have := HI4.out.grown; omega
             have e3 := later_cell (by omega) (keeps hb6 hbl e3)
             have b0 := later_cell (by omega) (keeps (HW5.out.trans (hb6.mono HW5.out.size)) hbp HB0.out)
             have HBX : Hid (Below wo.heap.size wo w6) := HB5.out.trans (hb6.mono hs5)
             clear e1 e2 hb6
             cases hA : anyTo t p cq L q j
             ·rw [hA] at HAS
              by_cases hz : 0 ≤ toState t p e q
              ·have hzd : decide (0 ≤ toState t p e q) = true := decide_eq_true hz
               rw [hzd] at HAS
               obtain ⟨zn, hzn⟩ : ∃ zn : Nat, (zn : Int) = toState t p e q := ⟨(toState t p e q).toNat, by omega⟩
               obtain ⟨dn, hdn⟩ : ∃ dn : Nat, (dn : Int) = e.dst := ⟨e.dst.toNat, by omega⟩
               rw [← hdn] at e3 HAS hds1
               rw [← hzn] at HAS hzr hz hzd ⊢
               obtain ⟨m2, hm2⟩ : ∃ m2 : Nat, m2 = dn * P := ⟨_, rfl⟩
               have hm2i : (dn : Int) * (P : Int) = (m2 : Int) := by rw [hm2]; simp
               have hlt2 : m2 + zn < N := by rw [hm2, HNN.out]; exact pair_lt (by omega) (by omega)
               rw [idx_nat HPP.out, ← hm2] at HAS
               have c2 := cell_bool (owns_below HI4.out.own HBX.out) hlt2
               have c2 := later_cell (by have := HI4.out.grown; have := HBX.out.size; omega) c2
               generalize hbb : cq.getD (m2 + zn) false = bb at *
               clear hm2 hdn hzn hbb hds0 hA
               go_wp2
               refine wp_region_later (by kernel_rfl) (by kernel_rfl) ?_
               repeat (go_big_quiet_step ((fail)))
               refine wpQuiet_nil ?_
               intro _ hw9
               obtain ⟨nl, hw8⟩ := hw9
               subst hw8
               clear e3 b0 c2 hzd
               go_wp2
               go_roundw
               case rel => exact ⟨j + 1, by omega, by go_num, by rw [HAS.out]; simp, HBX.out.trans (nl.h.mono HBX.out.size)⟩
               case measure => simp [intOf]; omega
              ·have hzd : decide (0 ≤ toState t p e q) = false := decide_eq_false hz
               rw [hzd] at HAS
               generalize toState t p e q = z at *
               clear hA
               go_wp2
               refine wp_region_later (by kernel_rfl) (by kernel_rfl) ?_
               repeat (go_big_quiet_step ((fail)))
               refine wpQuiet_nil ?_
               intro _ hw9
               obtain ⟨nl, hw8⟩ := hw9
               subst hw8
               clear e3 b0 hzd
               go_wp2
               go_roundw
               case rel => exact ⟨j + 1, by omega, by go_num, by rw [HAS.out]; simp, HBX.out.trans (nl.h.mono HBX.out.size)⟩
               case measure => simp [intOf]; omega
             ·rw [hA] at HAS
              generalize toState t p e q = z at *
              clear hA
              go_wp2
              refine wp_region_later (by kernel_rfl) (by kernel_rfl) ?_
              repeat (go_big_quiet_step ((fail)))
              refine wpQuiet_nil ?_
              intro _ hw9
              obtain ⟨nl, hw8⟩ := hw9
              subst hw8
              clear e3 b0
              go_wp2
              go_roundw
              case rel => exact ⟨j + 1, by omega, by go_num, by rw [HAS.out]; simp, HBX.out.trans (nl.h.mono HBX.out.size)⟩
              case measure => simp [intOf]; omega
            ·obtain rfl : j = L.length := by omega
             clear hrow4
             rw [anyTo_all]
             have hx := HLL.out
             clear HLL
             subst hx
             have HI5 : Hid (InnerRel N w.heap.size w wr c cq b4) := ⟨HI4.out.less, HW5.out, by have := HI4.out.grown; omega, owns_below HI4.out.own HB5.out⟩
             have HL5 := Lib.hid (HL4.out.below HB5.out)
             cases hgo : goesB t p cq (outOf t k) q
             ·have HST : Hid (stepB t p k q cq = cq.set (m + q) false) := by
               unfold Hid
               rw [stepB_set (by rw [HIX.out]; exact HCG.out) HNE.out hgo, HIX.out]
              have c1 := cell_bool HI5.out.own hmq
              have f1 := HI5.out.own.frozenAt (m + q)
              have HO6 := Lib.hid (HI5.out.own.stored (m + q) (.bool false)).1
              clear hgo
              go_wp2
              go_roundw
              case rel => exact ⟨q + 1, true, rfl, by go_num, by omega, by
                rw [HS1.out, HST.out]
                exact ⟨HI5.out.less.set HCG.out, HI5.out.below.setCell (by exact Nat.le_refl _) _, by simpa using HI5.out.grown, by rw [List.map_set]; exact HO6.out⟩, SliceK.grown HL5.out (grown_setCell _ _ _) (fun b e => by cases e; exact Nat.lt_succ_self _)⟩
              case measure => simp [intOf]; omega
             ·have HST : Hid (stepB t p k q cq = cq) := stepB_no3 hgo
              clear hgo
              go_wp2
              go_roundw
              case rel => exact ⟨q + 1, b4, rfl, by go_num, by omega, by rw [HS1.out, HST.out]; exact HI5.out, HL5.out⟩
              case measure => simp [intOf]; omega
        ·obtain rfl : P = q := by omega
         go_wp2
         go_roundw
         case rel => exact ⟨k + 1, b4, rfl, by go_num, by omega, by rw [sweepTo_succ, ← HPP.out, Int.toNat_natCast, HCK.out]; exact HI4.out⟩
         case measure => simp [intOf]; omega
      ·obtain rfl : S = k := by omega
       have hsw : sweepTo t p S c = sweepB t p c := by unfold sweepB; rw [← HSS.out, Int.toNat_natCast]
       rw [hsw] at HI
       clear hsw
       go_wp2
       go_roundg (2 * (sweepB t p c).count true + b.toNat)
       case measure =>
        have h1 := HR.out.left
        rcases HI.out.less.2 with ⟨rfl, h2⟩ | ⟨rfl, h2⟩
        ·simp only [Bool.toNat_true] at *; omega
        ·rw [h2]; simp only [Bool.toNat_true, Bool.toNat_false] at *; omega
       case rel =>
        obtain ⟨n, hn⟩ := HR.out.iter
        exact ⟨sweepB t p c, b, rfl, by rw [HI.out.less.1]; exact hcl, ⟨n + 1, by rw [sweeps_succ, ← hn]⟩, (fun h => by
         rcases HI.out.less.2 with ⟨h1, -⟩ | ⟨-, h1⟩
         ·rw [h1] at h; cases h
         ·rw [h1, h1]), Nat.le_refl _, HI.out.below, HI.out.grown, HI.out.own⟩

end Go.Proofs.YtmeibnhhlknbfaaGreatDoor
