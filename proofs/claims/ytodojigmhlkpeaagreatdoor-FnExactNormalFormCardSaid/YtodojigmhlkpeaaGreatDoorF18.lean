/-
  The reference's l18Before, l18Least.
  The reference's NormalForm.
  The library's slices.Equal at texts.
-/
import Derived.Test.YtodojigmhlkpeaaGreatDoorF17
import Derived.Test.YtodojigmhlkpeaaGreatDoorF16
import Derived.Test.YtodojigmhlkpeaaGreatDoorF5
import Derived.Test.YtodojigmhlkpeaaGreatDoorF6
import Derived.Deep.AppendLies
import Derived.Test.YtodojigmhlkpeaaGreatDoorProg
import Derived.Test.YtodojigmhlkpeaaGreatDoorF1
import Derived.Test.YtodojigmhlkpeaaGreatDoorF11
namespace Go.Proofs.YtodojigmhlkpeaaGreatDoor
open Go Go.RowKit

theorem strLess_data (x y : ByteArray) : strLess x y = decide (x.data.toList < y.data.toList) := by unfold strLess; rw [less_lt, Lib.toList_data, Lib.toList_data]
theorem toList_beq {x y : ByteArray} : (x.toList == y.toList) = decide (x = y) := by
 rw [Bool.eq_iff_iff, beq_iff_eq, decide_eq_true_eq]
 exact ⟨toList_inj, fun h => by rw [h]⟩

set_option maxRecDepth 100000 in
set_option maxHeartbeats 1000000 in
theorem l18Before_any (lo lo2 : Nat) (av bv : Value) (xs ys : List ByteArray) (w : World) (ha : SliceK 1 encS lo w av xs) (hb : SliceK 1 encS lo2 w bv ys) (hxl : xs.length ≤ 1000) (_hyl : ys.length ≤ 1000) :
  Calls Tryz.prog 40 #[av, bv] w fun e w' => e = .returned (.bool (befL xs ys)) ∧ Below w.heap.size w w' := by
 obtain ⟨a, c, rfl, -, -, hra⟩ := ha
 obtain ⟨a2, c2, rfl, -, -, hrb⟩ := hb
 have HA := Lib.hid hra
 have HB := Lib.hid hrb
 obtain ⟨N, hN⟩ : ∃ N, N = xs.length := ⟨_, rfl⟩
 obtain ⟨M, hM⟩ : ∃ M, M = ys.length := ⟨_, rfl⟩
 rw [← hN] at hxl ⊢
 rw [← hM] at _hyl ⊢
 have HN := Lib.hid hN
 have HM := Lib.hid hM
 clear hra hrb hN hM
 go_enter Tryz.func40, Tryz.ntmps40
 go_wp2
 go_loopw [5] (fun i wr => ∃ k : Nat, k ≤ N ∧ k ≤ M ∧ i = .int .i64 k ∧ Below w.heap.size w wr ∧ ∀ j (h : j < xs.length) (h' : j < ys.length), j < k → xs[j] = ys[j]) (fun i _ => N - (intOf i).toNat)
 case atStart => exact ⟨0, Nat.zero_le _, Nat.zero_le _, rfl, Below.refl _ _, fun _ _ _ h => by omega⟩
 case round =>
  obtain ⟨k, hkN, hkM, rfl, hbl, hx⟩ := hrel
  obtain ⟨wC, rfl⟩ : ∃ wC : World, wC = wr := ⟨_, rfl⟩
  have HX := Lib.hid hx
  have HBL := Lib.hid hbl
  have hsz := hbl.size
  clear hx
  by_cases h1 : k < N
  ·have hk1 : k < xs.length := by rw [← HN.out]; exact h1
   by_cases h2 : k < M
   ·have hk2 : k < ys.length := by rw [← HM.out]; exact h2
    obtain ⟨b1, o1, rfl, -, hw1, c1⟩ := (HA.out.below hbl).one hk1
    obtain ⟨b2, o2, rfl, -, hw2, c2⟩ := (HB.out.below hbl).one hk2
    simp only [encS, List.getElem?_cons_zero] at c1 c2
    have hq := toList_beq (x := xs[k]) (y := ys[k])
    have hls : xs[k] ≠ ys[k] → befL xs ys = strLess xs[k] ys[k] := fun hne => by rw [befL_at hk1 hk2 HX.out hne, strLess_data]
    obtain ⟨x, hxe⟩ : ∃ x, x = xs[k] := ⟨_, rfl⟩
    obtain ⟨y, hye⟩ : ∃ y, y = ys[k] := ⟨_, rfl⟩
    rw [← hxe] at c1 hq hls
    rw [← hye] at c2 hq hls
    have HLS := Lib.hid hls
    have lc1 := later_cell hw1 c1
    have lc2 := later_cell hw2 c2
    by_cases he : x = y
    ·rw [decide_eq_true he] at hq
     have hq2 : (x.toList != y.toList) = false := by simp only [bne, hq, Bool.not_true]
     have HE : Hid (xs[k] = ys[k]) := by unfold Hid; rw [← hxe, ← hye]; exact he
     clear hbl c1 c2 hxe hye hls he
     go_wp2
     refine wp_region_later (by kernel_rfl) (by kernel_rfl) ?_
     repeat (go_big_quiet_step ((fail)))
     refine wpQuiet_nil ?_
     intro _ hw9
     obtain ⟨nl, hw8⟩ := hw9
     subst hw8
     have HBN := Lib.hid (HBL.out.trans (nl.h.mono hsz))
     clear lc1 lc2 hq hq2
     go_wp2
     go_roundw
     case rel => exact ⟨k + 1, by omega, by omega, by go_num, HBN.out, fun j h h' hj => by
      by_cases e : j = k
      ·subst e; exact HE.out
      ·exact HX.out j h h' (by omega)⟩
     case measure => simp [intOf]; omega
    ·rw [decide_eq_false he] at hq
     have hq2 : (x.toList != y.toList) = true := by simp only [bne, hq, Bool.not_false]
     have HE : Hid (befL xs ys = strLess x y) := HLS.out he
     have C1 := Lib.hid c1
     have C2 := Lib.hid c2
     clear hbl c1 c2 hxe hye hls he
     go_wp2
     refine wp_region_later (by kernel_rfl) (by kernel_rfl) ?_
     repeat (go_big_quiet_step ((fail)))
     refine wpQuiet_nil ?_
     intro _ hw9
     obtain ⟨nl, hw8⟩ := hw9
     subst hw8
     obtain ⟨w3, hw3⟩ : ∃ w3, w3 = nl.w := ⟨_, rfl⟩
     have hb3 : Below wC.heap.size wC w3 := by rw [hw3]; exact nl.h
     rw [← hw3]
     have c1 := keeps hb3 hw1 C1.out
     have c2 := keeps hb3 hw2 C2.out
     have hl1 := Nat.lt_of_lt_of_le hw1 hb3.size
     have hl2 := Nat.lt_of_lt_of_le hw2 hb3.size
     have HB3 := Lib.hid (HBL.out.trans (hb3.mono hsz))
     have hs3 := HB3.out.size
     clear lc1 lc2 hq hq2 hb3 hw3 nl
     have ld1 := later_cell hl1 c1
     have ld2 := later_cell hl2 c2
     obtain ⟨lb, hlb⟩ : ∃ lb, lb = strLess x y := ⟨_, rfl⟩
     rw [← hlb] at HE
     have hlb2 := hlb.symm
     unfold strLess at hlb2
     clear c1 c2 hlb
     go_wp2
     refine wp_region_later (by kernel_rfl) (by kernel_rfl) ?_
     repeat (go_big_quiet_step ((fail)))
     refine wpQuiet_nil ?_
     intro _ hw9
     obtain ⟨nl, hw8⟩ := hw9
     subst hw8
     have HB4 := Lib.hid (HB3.out.trans (nl.h.mono hs3))
     clear ld1 ld2
     go_wp2
     go_ret
     exact ⟨ret_bool HE.out.symm, HB4.out⟩
   ·have HF : Hid (befL xs ys = false) := by
     unfold Hid
     rw [befL_end fun j h h' => HX.out j h h' (by have := HM.out; omega)]
     rw [decide_eq_false_iff_not]
     have := HN.out
     have := HM.out
     omega
    have hNM : ¬ N < M := by omega
    clear hbl
    go_wp2
    go_ret
    exact ⟨ret_bool HF.out.symm, HBL.out⟩
  ·have HF : Hid (befL xs ys = decide (N < M)) := by
    unfold Hid
    rw [befL_end fun j h h' => HX.out j h h' (by have := HN.out; omega)]
    rw [← HN.out, ← HM.out]
   clear hbl
   by_cases hNM : N < M
   ·rw [decide_eq_true hNM] at HF
    go_wp2
    go_ret
    exact ⟨ret_bool HF.out.symm, HBL.out⟩
   ·rw [decide_eq_false hNM] at HF
    go_wp2
    go_ret
    exact ⟨ret_bool HF.out.symm, HBL.out⟩

/-- An offer that speaks against another one. -/
def badB (O : List (List ByteArray)) (i k : Nat) : Bool := withinL (lsAt O k) (lsAt O i) && (decide ((lsAt O k).length < (lsAt O i).length) || decide (k < i))
def keepU (O : List (List ByteArray)) (i k : Nat) : Bool := (List.range k).all fun j => !badB O i j
theorem keepU_succ (O : List (List ByteArray)) (i k : Nat) : keepU O i (k + 1) = (keepU O i k && !badB O i k) := by
 unfold keepU
 rw [List.range_succ, List.all_append]
 simp
theorem keepU_iff {O : List (List ByteArray)} {i : Nat} (h : i < O.length) : keepU O i O.length = true ↔ keepB O i h := by
 unfold keepU keepB
 rw [List.all_eq_true]
 constructor
 ·intro hk k hk2 hc
  have := hk k (List.mem_range.2 hk2)
  unfold badB at this
  rw [lsAt_lt hk2, lsAt_lt h, hc.1] at this
  rcases hc.2 with h2 | h2 <;> simp [h2] at this
 ·intro hk j hj
  have hj2 := List.mem_range.1 hj
  have := hk j hj2
  unfold badB
  rw [lsAt_lt hj2, lsAt_lt h]
  cases hw : withinL O[j] O[i] with
  | false => simp
  | true =>
   rw [hw] at this
   simp only [true_and, not_or] at this
   simp [this.1, this.2]
theorem pick_txts (O : List (List ByteArray)) (ls : List Nat) : (ls.map fun i => (O.map txts).getD i []) = (ls.map (lsAt O)).map txts := by
 rw [List.map_map]
 apply List.map_congr_left
 intro i _
 unfold lsAt
 simp only [Function.comp_apply, List.getD_eq_getElem?_getD, List.getElem?_map]
 cases O[i]? <;> rfl
theorem befL_nodup {O : List (List ByteArray)} {ls : List Nat} (h : (ls.map (lsAt O)).Pairwise fun a b => befL a b = true) : ls.Nodup := by
 rw [List.pairwise_map] at h
 exact h.imp fun {a b} k e => by subst e; rw [befL_irrefl] at k; cases k

set_option maxRecDepth 100000 in
set_option maxHeartbeats 8000000 in
theorem l18Least_any (p lo lo2 : Nat) (t : Lts) (v : Value) (S : List Int) (w : World) (hv : Valid t) (hp : LtsPtr lo w p t) (hs : SliceK 1 encI lo2 w v S) (hlen : S.length ≤ 1000) :
  Calls Tryz.prog 18 #[.pointer (some ⟨p, 0, none⟩), v] w fun e w' => ∃ v' us L, e = .returned v' ∧ Below w.heap.size w w' ∧ OwnStrss w.heap.size w' v' us L ∧ leastIs (offersS t S) L := by
 have HOF := Lib.hid (l18Offers_any p lo lo2 t v S w hv hp hs hlen)
 have hOl := offersS_len t S
 have hO1 : ∀ o ∈ offersS t S, o.length ≤ 300 := fun o ho => by
  obtain ⟨k, -, rfl⟩ := List.mem_map.1 ho
  exact Nat.le_trans (offTo_len t k _) hv.most
 have HASC := Lib.hid (offersS_asc hv S)
 obtain ⟨O, hO⟩ : ∃ O, O = offersS t S := ⟨_, rfl⟩
 rw [← hO] at HOF hOl hO1 HASC ⊢
 have HO1 := Lib.hid hO1
 have hON : O.length ≤ 1000 := by omega
 obtain ⟨i2, hi2, hz20, hz21, hz22⟩ := info_parts info_strsV
 clear hv hp hs hlen hOl hO1 hO
 go_enter Tryz.func18, Tryz.ntmps18
 go_wp2_with fail
 refine Calls.mono HOF.out ?_
 rintro e w1 ⟨v1, vs, rfl, hb1, hos⟩
 have hvl := hos.len
 obtain ⟨N, hN⟩ : ∃ N, N = O.length := ⟨_, rfl⟩
 have hsv : SliceK 1 encV w.heap.size w1 v1 vs := SliceK.of_owns encV_len rfl (by rw [flat_encV]; exact hos.out)
 obtain ⟨a, c, rfl, hcn, hcc, hrow⟩ := hsv
 have HROW := Lib.hid hrow
 have HOS := Lib.hid hos
 rw [← hN] at hvl hON
 rw [hvl] at hcn ⊢
 have HVL := Lib.hid hvl
 have HN := Lib.hid hN
 have HB1 := Lib.hid hb1
 have hs1 := hb1.size
 clear hrow hos hb1 hvl hN HOF
 go_wp2
 go_loopw [6, 7] (fun v6 v7 wr => ∃ (i : Nat) (ls : List Nat), i ≤ N ∧ v7 = .int .i64 i ∧ Below w1.heap.size w1 wr ∧ wr.ownsRow w1.heap.size 22 1 v6 ls.length (ls.map (hdAt vs)) ∧ leastTo O i (ls.map (lsAt O)) ∧ ∀ j ∈ ls, j < i) (fun _ v7 _ => N - (intOf v7).toNat)
 case atStart => exact ⟨0, [], Nat.zero_le _, rfl, (Below.refl _ _).alloc (Nat.le_refl _) _, World.ownsRow_lit (size := 1) w1 #[] 0 (Nat.le_refl _) (by simp [maxLen]) rfl, leastTo.start O, fun j h => by cases h⟩
 case round =>
  obtain ⟨i, ls, hi, rfl, hbl, ho, hlt9, hls⟩ := hrel
  obtain ⟨wC, rfl⟩ : ∃ wC : World, wC = wr := ⟨_, rfl⟩
  have HBL := Lib.hid hbl
  have HO := Lib.hid ho
  have HLT := Lib.hid hlt9
  have HLS := Lib.hid hls
  have hszC := hbl.size
  have hll : ls.length ≤ i := nodup_lt i ls (befL_nodup hlt9.1) hls
  obtain ⟨oa, oc, rfl, -, -⟩ := owns_slice ho
  obtain ⟨M, hM⟩ : ∃ M, M = ls.length := ⟨_, rfl⟩
  rw [← hM] at hll ho HO ⊢
  have HM := Lib.hid hM
  clear hM hlt9 hls
  by_cases hlt : i < N
  ·have hiO : i < O.length := by rw [← HN.out]; exact hlt
   have hiV : i < vs.length := by rw [HVL.out]; exact hlt
   obtain ⟨b, o, rfl, -, hbw, -⟩ := HROW.out.one hiV
   have HCL : Hid (∀ w', Below w1.heap.size w1 w' → ∀ k, k < N → w'.cell? ⟨b, o + k, none⟩ = some (hdAt vs k)) := fun w' hb k hk => by
    have hkV : k < vs.length := by rw [HVL.out]; exact hk
    obtain ⟨b9, o9, e9, -, hb9, c9⟩ := HROW.out.one hkV
    simp only [Option.some.injEq, Addr.mk.injEq, and_true] at e9
    obtain ⟨rfl, rfl⟩ := e9
    simp only [encV, List.getElem?_cons_zero] at c9
    rw [hdAt_lt hkV]
    exact keeps hb hb9 c9
   have HSL : Hid (∀ w', Below w1.heap.size w1 w' → ∀ k, k < N → SliceK 1 encS w.heap.size w' (hdAt vs k) (lsAt O k)) := fun w' hb k hk => by
    have hkV : k < vs.length := by rw [HVL.out]; exact hk
    have hkO : k < O.length := by rw [← HN.out]; exact hk
    rw [hdAt_lt hkV, lsAt_lt hkO]
    exact SliceK.below (SliceK.of_owns (e := 9) encS_len rfl (by rw [flat_encS]; exact HOS.out.rowAt k hkV hkO)) hb
   have HLL : Hid (∀ k, k < N → (lsAt O k).length ≤ 300) := fun k hk => by
    have hkO : k < O.length := by rw [← HN.out]; exact hk
    rw [lsAt_lt hkO]
    exact HO1.out _ (List.getElem_mem _)
   obtain ⟨ai, ci, hhi, -⟩ := HSL.out w1 (Below.refl _ _) i hlt
   obtain ⟨ni, hni⟩ : ∃ ni, ni = (lsAt O i).length := ⟨_, rfl⟩
   have hni3 := HLL.out i hlt
   rw [← hni] at hhi hni3
   have HHI := Lib.hid hhi
   have HNI := Lib.hid hni
   have hbC : b < wC.heap.size := Nat.lt_of_lt_of_le hbw hszC
   clear hbl ho hhi hni
   go_wp2
   go_loopw [8, 9] (fun v8 v9 wr => ∃ k : Nat, k ≤ N ∧ v8 = .bool (keepU O i k) ∧ v9 = .int .i64 k ∧ Below wC.heap.size wC wr) (fun _ v9 _ => N - (intOf v9).toNat)
   case atStart => exact ⟨0, Nat.zero_le _, rfl, rfl, Below.refl _ _⟩
   case round =>
    obtain ⟨k, hk, rfl, rfl, hb2⟩ := hrel
    obtain ⟨w2, rfl⟩ : ∃ w2 : World, w2 = wr := ⟨_, rfl⟩
    have HB2 := Lib.hid hb2
    have hsz2 := hb2.size
    have hb12 := HBL.out.trans (hb2.mono hszC)
    have HB12 := Lib.hid hb12
    have hbw2 : b < w2.heap.size := Nat.lt_of_lt_of_le hbC hsz2
    by_cases hltk : k < N
    ·have ck := HCL.out w2 hb12 k hltk
     have ci2 := HCL.out w2 hb12 i hlt
     obtain ⟨ak, ck2, hhk, -⟩ := HSL.out w2 hb12 k hltk
     obtain ⟨nk, hnk⟩ : ∃ nk, nk = (lsAt O k).length := ⟨_, rfl⟩
     have hnk3 := HLL.out k hltk
     have HSK := HSL.out w2 hb12 k hltk
     have HSI := HSL.out w2 hb12 i hlt
     rw [← hnk] at hhk hnk3
     rw [hhk] at ck HSK
     rw [HHI.out] at ci2 HSI
     have HWI : Hid (∀ g : Later w2, Calls Tryz.prog 39 #[.slice ak nk ck2, .slice ai ni ci] g.w fun e w' => e = .returned (.bool (withinL (lsAt O k) (lsAt O i))) ∧ Below g.w.heap.size g.w w') := fun g => l18Within_any w.heap.size w.heap.size _ _ _ _ g.w (HSK.below g.h) (HSI.below g.h) (by rw [← hnk]; omega)
     have hnx := keepU_succ O i k
     have hbb : badB O i k = (withinL (lsAt O k) (lsAt O i) && (decide (nk < ni) || decide (k < i))) := by unfold badB; rw [← hnk, ← HNI.out]
     obtain ⟨wb, hwb⟩ : ∃ wb, wb = withinL (lsAt O k) (lsAt O i) := ⟨_, rfl⟩
     rw [← hwb] at HWI hbb
     rw [hbb] at hnx
     have HNX := Lib.hid hnx
     have lck := later_cell hbw2 ck
     have lci := later_cell hbw2 ci2
     have CK := Lib.hid ck
     have CI := Lib.hid ci2
     obtain ⟨ku, hku⟩ : ∃ ku, ku = keepU O i k := ⟨_, rfl⟩
     rw [← hku] at HNX ⊢
     clear hb2 hb12 hhk hnk HSK HSI hnx hbb hwb ck ci2 hku
     cases wb
     ·go_wp2
      refine wp_region_later (by kernel_rfl) (by kernel_rfl) ?_
      repeat (go_big_quiet_step ((go_at_call 39; exact later_call (HWI.out _))))
      refine wpQuiet_nil ?_
      intro _ hw9
      obtain ⟨nl, hw8⟩ := hw9
      subst hw8
      have HBN := Lib.hid (HB2.out.trans (nl.h.mono hsz2))
      clear lck lci
      go_wp2
      go_roundw
      case rel => exact ⟨k + 1, by omega, by rw [HNX.out]; simp, by go_num, HBN.out⟩
      case measure => simp [intOf]; omega
     ·by_cases hnn : nk < ni
      ·go_wp2
       refine wp_region_later (by kernel_rfl) (by kernel_rfl) ?_
       repeat (go_big_quiet_step ((go_at_call 39; exact later_call (HWI.out _))))
       refine wpQuiet_nil ?_
       intro _ hw9
       obtain ⟨nl, hw8⟩ := hw9
       subst hw8
       have HBN := Lib.hid (HB2.out.trans (nl.h.mono hsz2))
       clear lck lci
       go_wp2
       go_roundw
       case rel => exact ⟨k + 1, by omega, by rw [HNX.out, decide_eq_true hnn]; simp, by go_num, HBN.out⟩
       case measure => simp [intOf]; omega
      ·by_cases hki : k < i
       ·go_wp2
        refine wp_region_later (by kernel_rfl) (by kernel_rfl) ?_
        repeat (go_big_quiet_step ((go_at_call 39; exact later_call (HWI.out _))))
        refine wpQuiet_nil ?_
        intro _ hw9
        obtain ⟨nl, hw8⟩ := hw9
        subst hw8
        have HBN := Lib.hid (HB2.out.trans (nl.h.mono hsz2))
        clear lck lci
        go_wp2
        go_roundw
        case rel => exact ⟨k + 1, by omega, by rw [HNX.out, decide_eq_true hki]; simp, by go_num, HBN.out⟩
        case measure => simp [intOf]; omega
       ·go_wp2
        refine wp_region_later (by kernel_rfl) (by kernel_rfl) ?_
        repeat (go_big_quiet_step ((go_at_call 39; exact later_call (HWI.out _))))
        refine wpQuiet_nil ?_
        intro _ hw9
        obtain ⟨nl, hw8⟩ := hw9
        subst hw8
        have HBN := Lib.hid (HB2.out.trans (nl.h.mono hsz2))
        clear lck lci
        go_wp2
        go_roundw
        case rel => exact ⟨k + 1, by omega, by rw [HNX.out, decide_eq_false hnn, decide_eq_false hki]; simp, by go_num, HBN.out⟩
        case measure => simp [intOf]; omega
    ·obtain rfl : k = N := by omega
     have hkp : keepU O i k = true ↔ keepB O i hiO := by rw [HN.out]; exact keepU_iff hiO
     obtain ⟨ku, hku⟩ : ∃ ku, ku = keepU O i k := ⟨_, rfl⟩
     rw [← hku] at hkp ⊢
     have HKP := Lib.hid hkp
     clear hb2 hb12 hkp hku
     cases ku
     ·have HNEXT : Hid (leastTo O (i + 1) (ls.map (lsAt O))) := HLT.out.pass hiO fun h => by have := HKP.out.2 h; cases this
      have HO2 := Lib.hid (owns_below HO.out HB2.out)
      go_wp2
      go_roundw
      case rel => exact ⟨i + 1, ls, by omega, by go_num, HB12.out, by rw [← HM.out]; exact HO2.out, HNEXT.out, fun j h => Nat.lt_succ_of_lt (HLS.out j h)⟩
      case measure => simp [intOf]; omega
     ·have HKB : Hid (keepB O i hiO) := HKP.out.1 rfl
      have HO2 := Lib.hid (owns_below HO.out HB2.out)
      have hlm : (ls.map (lsAt O)).length = M := by rw [List.length_map, HM.out]
      have HLM := Lib.hid hlm
      clear hlm
      go_wp2
      go_loopw [10] (fun v10 wr => ∃ m : Nat, m ≤ M ∧ v10 = .int .i64 m ∧ Below w2.heap.size w2 wr ∧ ∀ j (h : j < (ls.map (lsAt O)).length), m ≤ j → befL O[i] (ls.map (lsAt O))[j] = true) (fun v10 _ => (intOf v10).toNat)
      case atStart => exact ⟨M, Nat.le_refl _, rfl, Below.refl _ _, fun j h hj => by have := HLM.out; omega⟩
      case round =>
       obtain ⟨m, hmM, rfl, hb3, hhi⟩ := hrel
       obtain ⟨w3, rfl⟩ : ∃ w3 : World, w3 = wr := ⟨_, rfl⟩
       have HB3 := Lib.hid hb3
       have HHB := Lib.hid hhi
       have hsz3 := hb3.size
       have hb13 := HB12.out.trans (hb3.mono HB12.out.size)
       have HB13 := Lib.hid hb13
       have hbw3 : b < w3.heap.size := Nat.lt_of_lt_of_le hbw2 hsz3
       have HO3 := Lib.hid (owns_below HO2.out hb3)
       clear hhi
       by_cases hm0 : 0 < m
       ·obtain ⟨q0, rfl⟩ : ∃ q0, m = q0 + 1 := ⟨m - 1, by omega⟩
        have hqL : q0 < ls.length := by have := HM.out; omega
        have cA := HCL.out w3 hb13 i hlt
        have hqi := HLS.out ls[q0] (List.getElem_mem _)
        obtain ⟨og, hog, hogw⟩ : ∃ og, oa = some ⟨og, 0, none⟩ ∧ og < w3.heap.size := by
         rcases HO3.out.2 with ⟨h, h0⟩ | ⟨g, cap, cur, h, h1, hg, -⟩
         ·omega
         ·simp only [Value.slice.injEq, true_and] at h
          exact ⟨g, h.1, (Array.getElem?_eq_some_iff.1 hg).1⟩
        subst hog
        have cq := HO3.out.cellAt q0 (by omega)
        rw [List.getElem?_map, List.getElem?_eq_getElem hqL, Option.map_some] at cq
        obtain ⟨y, hy⟩ : ∃ y, y = ls[q0] := ⟨_, rfl⟩
        rw [← hy] at cq hqi
        obtain ⟨ya, yc, hye, -⟩ := HSL.out w1 (Below.refl _ _) y (by omega)
        have HSY := HSL.out w3 hb13 y (by omega)
        have HSI := HSL.out w3 hb13 i hlt
        obtain ⟨yn, hyn⟩ : ∃ yn, yn = (lsAt O y).length := ⟨_, rfl⟩
        have hyn3 := HLL.out y (by omega)
        rw [← hyn] at hye hyn3
        rw [hye] at cq HSY
        rw [HHI.out] at cA HSI
        have HBF : Hid (∀ g : Later w3, Calls Tryz.prog 40 #[.slice ai ni ci, .slice ya yn yc] g.w fun e w' => e = .returned (.bool (befL (lsAt O i) (lsAt O y))) ∧ Below g.w.heap.size g.w w') := fun g => l18Before_any w.heap.size w.heap.size _ _ _ _ g.w (HSI.below g.h) (HSY.below g.h) (by rw [← HNI.out]; omega) (by rw [← hyn]; omega)
        have hby : befL (lsAt O i) (lsAt O y) = befL O[i] ((ls.map (lsAt O))[q0]'(by rw [List.length_map]; exact hqL)) := by rw [lsAt_lt hiO, List.getElem_map, hy]
        obtain ⟨bb, hbb⟩ : ∃ bb, bb = befL (lsAt O i) (lsAt O y) := ⟨_, rfl⟩
        rw [← hbb] at HBF hby
        have HBY := Lib.hid hby
        have lcA := later_cell hbw3 cA
        have lcq := later_cell hogw cq
        clear hb3 hb13 hy hye hyn HSY HSI hby hbb cA cq
        cases bb
        ·go_wp2
         refine wp_region_later (by kernel_rfl) (by kernel_rfl) ?_
         repeat (go_big_quiet_step ((go_at_call 40; exact later_call (HBF.out _))))
         refine wpQuiet_nil ?_
         intro _ hw9
         obtain ⟨nl, hw8⟩ := hw9
         subst hw8
         obtain ⟨w9, hw9⟩ : ∃ w9, w9 = nl.w := ⟨_, rfl⟩
         have hb9 : Below w3.heap.size w3 w9 := by rw [hw9]; exact nl.h
         rw [← hw9]
         have HBW := Lib.hid (HB13.out.trans (hb9.mono HB13.out.size))
         have HOW := Lib.hid (owns_below HO3.out hb9)
         have HLO : Hid (∀ h : 0 < q0 + 1, befL O[i] ((ls.map (lsAt O))[q0 + 1 - 1]'(by rw [List.length_map]; omega)) = false) := fun _ => by simp only [Nat.add_sub_cancel]; exact HBY.out.symm
         clear lcA lcq hb9 hw9 nl HBF
         have HPUT : Hid (leastTo O (i + 1) ((ls.take (q0 + 1) ++ i :: ls.drop (q0 + 1)).map (lsAt O))) := by
          unfold Hid
          have h := HLT.out.put (a := (q0 + 1)) hiO HKB.out (by rw [HLM.out]; omega) HHB.out HLO.out
          rw [List.map_append, List.map_cons, List.map_take, List.map_drop, lsAt_lt hiO]
          exact h
         have HPL : Hid (∀ j ∈ ls.take (q0 + 1) ++ i :: ls.drop (q0 + 1), j < i + 1) := fun j h => by
          rw [List.mem_append, List.mem_cons] at h
          rcases h with h | h | h
          ·exact Nat.lt_succ_of_lt (HLS.out j (List.mem_of_mem_take h))
          ·omega
          ·exact Nat.lt_succ_of_lt (HLS.out j (List.mem_of_mem_drop h))
         have HPN : Hid ((ls.take (q0 + 1) ++ i :: ls.drop (q0 + 1)).length = M + 1) := by
          unfold Hid
          rw [List.length_append, List.length_cons, List.length_take, List.length_drop, ← HM.out]
          omega
         have hsW : w1.heap.size ≤ w9.heap.size := HBW.out.size
         go_wp2_with (at_builtin; refine wpList_append_own _ rfl _ _ 46 rfl w1.heap.size 22 i2 (.slice none 0 0) 1 24 Tryz.underlying46 hi2 hz20 hz21 hz22 rfl (by decide) _ M _ rfl (HOW.out.alloc _) ⟨w9.heap.size, 0, none⟩ 1 1 [.slice none 0 0] rfl rfl ?d1 ?d2 ?d3 ?d4 ?d5 ?_)
         case d1 => exact World.news_of_block (cs := #[.slice none 0 0]) (t := 22) (fr := (0, 0)) (heap_alloc_new _ _)
         case d2 => intro u hu; simp at hu; subst hu; rfl
         case d3 => simp [maxLen]; omega
         case d4 => omega
         case d5 => simp; omega
         intro v4 w4 ho4 hg4 _
         have HB4 : Hid (Below w1.heap.size w1 w4) := (HBW.out.alloc hsW _).grown hg4 (by simp; omega) (fun b e => (HOW.out.lt b e).1)
         have HO4 : Hid (w4.ownsRow w1.heap.size 22 1 v4 (M + 1) ((shiftG ls vs.length M).map (hdAt vs))) := by
          unfold Hid
          rw [HM.out, ← shiftG_end, List.map_append, List.map_singleton, hdAt_ge (Nat.le_refl _), ← HM.out]
          exact ho4
         obtain ⟨g4, cap4, rfl⟩ : ∃ g4 cap4, v4 = .slice (some ⟨g4, 0, none⟩) (M + 1) cap4 := by
          rcases HO4.out.2 with ⟨h, h0⟩ | ⟨g, cap, cur, h, -⟩
          ·omega
          ·exact ⟨g, cap, h⟩
         clear ho4 hg4 HOW hsW
         go_wp2
         go_loopw [11] (fun v11 wr => ∃ (q junk : Nat), v11 = .int .i64 q ∧ (q0 + 1) ≤ q ∧ q ≤ M ∧ Below w1.heap.size w1 wr ∧ wr.ownsRow w1.heap.size 22 1 (.slice (some ⟨g4, 0, none⟩) (M + 1) cap4) (M + 1) ((shiftG ls junk q).map (hdAt vs))) (fun v11 _ => (intOf v11).toNat)
         case atStart => exact ⟨M, vs.length, by go_num, by omega, Nat.le_refl _, HB4.out, HO4.out⟩
         case round =>
          clear HB4 HO4
          obtain ⟨q, junk, rfl, hmq, hqM, hb5, ho5⟩ := hrel
          obtain ⟨w5, rfl⟩ : ∃ w5 : World, w5 = wr := ⟨_, rfl⟩
          have HB5 := Lib.hid hb5
          have HO5 := Lib.hid ho5
          have hs5 := hb5.size
          have hbw5 : b < w5.heap.size := Nat.lt_of_lt_of_le hbw hs5
          have hgB : w1.heap.size ≤ g4 := (ho5.lt g4 rfl).1
          by_cases hqk : (q0 + 1) < q
          ·have hq1 : 1 ≤ q := by omega
           have hqL : q ≤ ls.length := by rw [← HM.out]; exact hqM
           have cg := ho5.cellAt (q - 1) (by omega)
           rw [List.getElem?_map, shiftG_get hq1 hqL, Option.map_some] at cg
           obtain ⟨xc, ct⟩ := own_cell ho5 q (by omega)
           have f5 := ho5.frozenAt q
           have hst := ho5.stored q (hdAt vs (ls[q - 1]'(by omega)))
           rw [← List.map_set, shiftG_set hq1 hqL] at hst
           have HST := Lib.hid hst.1
           have hyi := HLS.out (ls[q - 1]'(by omega)) (List.getElem_mem _)
           obtain ⟨y, hy⟩ : ∃ y, y = ls[q - 1]'(by omega) := ⟨_, rfl⟩
           rw [← hy] at cg HST hyi
           obtain ⟨ya, yc, hye, -⟩ := HSL.out w1 (Below.refl _ _) y (by omega)
           obtain ⟨yn, hyn⟩ : ∃ yn, yn = (lsAt O y).length := ⟨_, rfl⟩
           rw [← hyn] at hye
           rw [hye] at cg HST
           obtain ⟨r, rfl⟩ : ∃ r, q = r + 1 := ⟨q - 1, by omega⟩
           rw [Nat.add_sub_cancel] at cg HST
           have hpi : ((r + 1 : Nat) : Int) = (r : Int) + 1 := by omega
           rw [hpi]
           clear hst hb5 ho5 hy hpi hye hyn
           go_wp2
           go_roundw
           case rel => exact ⟨r, y, by go_num, by omega, by omega, HB5.out.setCell hgB _, HST.out⟩
           case measure => (first | (simp [intOf]; done) | (simp [intOf]; omega))
          ·have hqk2 : q = (q0 + 1) := by omega
           subst hqk2
           have cA := HCL.out w5 hb5 i hlt
           rw [HHI.out] at cA
           obtain ⟨xc, ct⟩ := own_cell ho5 (q0 + 1) (by omega)
           have f5 := ho5.frozenAt (q0 + 1)
           have hst := (ho5.stored (q0 + 1) (hdAt vs i)).1
           rw [← List.map_set, shiftG_put (by rw [← HM.out]; omega), HHI.out] at hst
           have HST := Lib.hid hst
           clear hst hb5 ho5
           go_wp2
           go_roundw
           case rel => exact ⟨i + 1, ls.take (q0 + 1) ++ i :: ls.drop (q0 + 1), by omega, by go_num, HB5.out.setCell hgB _, by rw [HPN.out]; exact HST.out, HPUT.out, HPL.out⟩
           case measure => simp [intOf]; omega
        ·go_wp2
         refine wp_region_later (by kernel_rfl) (by kernel_rfl) ?_
         repeat (go_big_quiet_step ((go_at_call 40; exact later_call (HBF.out _))))
         refine wpQuiet_nil ?_
         intro _ hw9
         obtain ⟨nl, hw8⟩ := hw9
         subst hw8
         have HBN := Lib.hid (HB3.out.trans (nl.h.mono hsz3))
         clear lcA lcq
         go_wp2
         go_roundw
         case rel => exact ⟨q0, by omega, by go_num, HBN.out, fun j h hj => by
          by_cases e : j = q0
          ·subst e; exact HBY.out.symm
          ·exact HHB.out j h (by omega)⟩
         case measure => simp [intOf]
       ·obtain rfl : m = 0 := by omega
        have HLO : Hid (∀ h : 0 < 0, befL O[i] ((ls.map (lsAt O))[0 - 1]'(by omega)) = false) := fun h => absurd h (Nat.lt_irrefl 0)
        clear hb3 hb13
        go_wp2
        refine wp_region_later (by kernel_rfl) (by kernel_rfl) ?_
        repeat (go_big_quiet_step ((fail)))
        refine wpQuiet_nil ?_
        intro _ hw9
        obtain ⟨nl, hw8⟩ := hw9
        subst hw8
        obtain ⟨w9, hw9⟩ : ∃ w9, w9 = nl.w := ⟨_, rfl⟩
        have hb9 : Below w3.heap.size w3 w9 := by rw [hw9]; exact nl.h
        rw [← hw9]
        have HBW := Lib.hid (HB13.out.trans (hb9.mono HB13.out.size))
        have HOW := Lib.hid (owns_below HO3.out hb9)
        clear hb9 hw9 nl
        have HPUT : Hid (leastTo O (i + 1) ((ls.take 0 ++ i :: ls.drop 0).map (lsAt O))) := by
         unfold Hid
         have h := HLT.out.put (a := 0) hiO HKB.out (by rw [HLM.out]; omega) HHB.out HLO.out
         rw [List.map_append, List.map_cons, List.map_take, List.map_drop, lsAt_lt hiO]
         exact h
        have HPL : Hid (∀ j ∈ ls.take 0 ++ i :: ls.drop 0, j < i + 1) := fun j h => by
         rw [List.mem_append, List.mem_cons] at h
         rcases h with h | h | h
         ·exact Nat.lt_succ_of_lt (HLS.out j (List.mem_of_mem_take h))
         ·omega
         ·exact Nat.lt_succ_of_lt (HLS.out j (List.mem_of_mem_drop h))
        have HPN : Hid ((ls.take 0 ++ i :: ls.drop 0).length = M + 1) := by
         unfold Hid
         rw [List.length_append, List.length_cons, List.length_take, List.length_drop, ← HM.out]
         omega
        have hsW : w1.heap.size ≤ w9.heap.size := HBW.out.size
        go_wp2_with (at_builtin; refine wpList_append_own _ rfl _ _ 46 rfl w1.heap.size 22 i2 (.slice none 0 0) 1 24 Tryz.underlying46 hi2 hz20 hz21 hz22 rfl (by decide) _ M _ rfl (HOW.out.alloc _) ⟨w9.heap.size, 0, none⟩ 1 1 [.slice none 0 0] rfl rfl ?d1 ?d2 ?d3 ?d4 ?d5 ?_)
        case d1 => exact World.news_of_block (cs := #[.slice none 0 0]) (t := 22) (fr := (0, 0)) (heap_alloc_new _ _)
        case d2 => intro u hu; simp at hu; subst hu; rfl
        case d3 => simp [maxLen]; omega
        case d4 => omega
        case d5 => simp; omega
        intro v4 w4 ho4 hg4 _
        have HB4 : Hid (Below w1.heap.size w1 w4) := (HBW.out.alloc hsW _).grown hg4 (by simp; omega) (fun b e => (HOW.out.lt b e).1)
        have HO4 : Hid (w4.ownsRow w1.heap.size 22 1 v4 (M + 1) ((shiftG ls vs.length M).map (hdAt vs))) := by
         unfold Hid
         rw [HM.out, ← shiftG_end, List.map_append, List.map_singleton, hdAt_ge (Nat.le_refl _), ← HM.out]
         exact ho4
        obtain ⟨g4, cap4, rfl⟩ : ∃ g4 cap4, v4 = .slice (some ⟨g4, 0, none⟩) (M + 1) cap4 := by
         rcases HO4.out.2 with ⟨h, h0⟩ | ⟨g, cap, cur, h, -⟩
         ·omega
         ·exact ⟨g, cap, h⟩
        clear ho4 hg4 HOW hsW
        go_wp2
        go_loopw [11] (fun v11 wr => ∃ (q junk : Nat), v11 = .int .i64 q ∧ 0 ≤ q ∧ q ≤ M ∧ Below w1.heap.size w1 wr ∧ wr.ownsRow w1.heap.size 22 1 (.slice (some ⟨g4, 0, none⟩) (M + 1) cap4) (M + 1) ((shiftG ls junk q).map (hdAt vs))) (fun v11 _ => (intOf v11).toNat)
        case atStart => exact ⟨M, vs.length, by go_num, by omega, Nat.le_refl _, HB4.out, HO4.out⟩
        case round =>
         clear HB4 HO4
         obtain ⟨q, junk, rfl, hmq, hqM, hb5, ho5⟩ := hrel
         obtain ⟨w5, rfl⟩ : ∃ w5 : World, w5 = wr := ⟨_, rfl⟩
         have HB5 := Lib.hid hb5
         have HO5 := Lib.hid ho5
         have hs5 := hb5.size
         have hbw5 : b < w5.heap.size := Nat.lt_of_lt_of_le hbw hs5
         have hgB : w1.heap.size ≤ g4 := (ho5.lt g4 rfl).1
         by_cases hqk : 0 < q
         ·have hq1 : 1 ≤ q := by omega
          have hqL : q ≤ ls.length := by rw [← HM.out]; exact hqM
          have cg := ho5.cellAt (q - 1) (by omega)
          rw [List.getElem?_map, shiftG_get hq1 hqL, Option.map_some] at cg
          obtain ⟨xc, ct⟩ := own_cell ho5 q (by omega)
          have f5 := ho5.frozenAt q
          have hst := ho5.stored q (hdAt vs (ls[q - 1]'(by omega)))
          rw [← List.map_set, shiftG_set hq1 hqL] at hst
          have HST := Lib.hid hst.1
          have hyi := HLS.out (ls[q - 1]'(by omega)) (List.getElem_mem _)
          obtain ⟨y, hy⟩ : ∃ y, y = ls[q - 1]'(by omega) := ⟨_, rfl⟩
          rw [← hy] at cg HST hyi
          obtain ⟨ya, yc, hye, -⟩ := HSL.out w1 (Below.refl _ _) y (by omega)
          obtain ⟨yn, hyn⟩ : ∃ yn, yn = (lsAt O y).length := ⟨_, rfl⟩
          rw [← hyn] at hye
          rw [hye] at cg HST
          obtain ⟨r, rfl⟩ : ∃ r, q = r + 1 := ⟨q - 1, by omega⟩
          rw [Nat.add_sub_cancel] at cg HST
          have hpi : ((r + 1 : Nat) : Int) = (r : Int) + 1 := by omega
          rw [hpi]
          clear hst hb5 ho5 hy hpi hye hyn
          go_wp2
          go_roundw
          case rel => exact ⟨r, y, by go_num, by omega, by omega, HB5.out.setCell hgB _, HST.out⟩
          case measure => (first | (simp [intOf]; done) | (simp [intOf]; omega))
         ·have hqk2 : q = 0 := by omega
          subst hqk2
          have cA := HCL.out w5 hb5 i hlt
          rw [HHI.out] at cA
          obtain ⟨xc, ct⟩ := own_cell ho5 0 (by omega)
          have f5 := ho5.frozenAt 0
          have hst := (ho5.stored 0 (hdAt vs i)).1
          rw [← List.map_set, shiftG_put (by rw [← HM.out]; omega), HHI.out] at hst
          have HST := Lib.hid hst
          clear hst hb5 ho5
          go_wp2
          go_roundw
          case rel => exact ⟨i + 1, ls.take 0 ++ i :: ls.drop 0, by omega, by go_num, HB5.out.setCell hgB _, by rw [HPN.out]; exact HST.out, HPUT.out, HPL.out⟩
          case measure => simp [intOf]; omega
  ·obtain rfl : i = N := by omega
   have HDN : Hid (leastIs O (ls.map (lsAt O))) := leastTo.done HASC.out (by rw [← HN.out]; exact HLT.out)
   have HOWN : Hid (OwnStrss w.heap.size wC (.slice oa M oc) (ls.map (hdAt vs)) (ls.map (lsAt O))) := by
    refine ⟨by rw [List.length_map, ← HM.out]; exact own_lower HO.out hs1, ?_⟩
    have h := (HOS.out.rows.below HBL.out).pick ls (befL_nodup HLT.out.1) (fun j h => by rw [HVL.out]; exact HLS.out j h) (.slice none 0 0)
    rw [pick_txts] at h
    exact h
   clear hbl ho
   go_wp2
   go_ret
   exact ⟨_, _, _, rfl, HB1.out.trans (HBL.out.mono hs1), HOWN.out, HDN.out⟩

end Go.Proofs.YtodojigmhlkpeaaGreatDoor

namespace Go.Proofs.YtodojigmhlkpeaaGreatDoor
open Go Go.RowKit

theorem info_strssN : (Tryz.prog.info? 46).map (fun i => (i.zero, i.size, i.bytes)) = some (some (.slice none 0 0), 1, 24) := by kernel_rfl
theorem get_sameNfN {α : Type} {l : List α} {i j : Nat} (h : i = j) (hi : i < l.length) (hj : j < l.length) : l[i] = l[j] := by subst h; rfl
theorem OwnStrsss.set1 {lo b : Nat} {w : World} {v : Value} {vs : List Value} {vss : List (List Value)} {x : List (List (List ByteArray))} {cs : List Value} (h : OwnStrsss lo w v vs vss x) (hb : Blk w b cs 29) (i : Nat) (u : Value) : OwnStrsss lo (w.setCell ⟨b, i, Option.none⟩ u) v vs vss x :=
 ⟨h.out.kept (grown_setCell w ⟨b, i, Option.none⟩ u) (own_type_far h.out hb (by decide)), h.mid.set hb (by decide) i u, h.rows.set hb (by decide) i u, h.shape⟩
theorem snf_results {w : World} {b : Nat} {v0 v1 v2 v3 : Value} {tmps : Array Value} (hc : tmps.getD 2 undef = .pointer (some ⟨b, 0, none⟩)) (hb : Blk w b [v0, v1, v2, v3] 29) :
  (results Tryz.f5 tmps).run Tryz.prog w = .ok (.tuple #[.agg #[v0, v1, v2, v3], tmps.getD 3 undef, tmps.getD 4 undef]) w := by
 have h0 := hb.cell 0 rfl
 have h1 := hb.cell 1 rfl
 have h2 := hb.cell 2 rfl
 have h3 := hb.cell 3 rfl
 simp only [Array.getD_eq_getD_getElem?] at hc
 simp [results, Tryz.results5, go_sem, hc, h0, h1, h2, h3, Result.andThen]

set_option maxRecDepth 100000 in
set_option maxHeartbeats 8000000 in
theorem specNormalForm_any (lo : Nat) (t : Lts) (lv ev : Value) (w : World) (hsh : Short t.labels) (hl : SliceK 1 encS lo w lv t.labels) (he : SliceK 3 encE lo w ev t.edges) :
  Calls Tryz.prog 5 #[.agg #[.int .i64 t.states, .int .i64 t.initial, lv, ev]] w (RetNf t w) := by
 obtain ⟨tb, htb⟩ : ∃ tb, tb = w.heap.size := ⟨_, rfl⟩
 obtain ⟨wA, hwA⟩ : ∃ wA, wA = (w.alloc (.cells #[.int .i64 t.states, .int .i64 t.initial, lv, ev] 29)).alloc (.cells #[.int .i64 0, .int .i64 0, .slice none 0 0, .slice none 0 0] 29) := ⟨_, rfl⟩
 have hbA : Below w.heap.size w wA := by rw [hwA]; exact ((Below.refl _ _).alloc (Nat.le_refl _) _).alloc (by simp) _
 have hT : Blk wA tb [.int .i64 t.states, .int .i64 t.initial, lv, ev] 29 := by rw [hwA, htb]; exact (Blk.new w _ _).alloc _
 have hR : Blk wA (tb + 1) [.int .i64 0, .int .i64 0, .slice none 0 0, .slice none 0 0] 29 := by
  have := Blk.new (w.alloc (.cells #[.int .i64 t.states, .int .i64 t.initial, lv, ev] 29)) [.int .i64 0, .int .i64 0, .slice none 0 0, .slice none 0 0] 29
  rw [World.size_alloc, ← htb] at this
  rw [hwA]
  exact this
 have HSH := Lib.hid hsh
 have HL := Lib.hid (hl.below hbA)
 have HE := Lib.hid (he.below hbA)
 have HBA := Lib.hid hbA
 have HT := Lib.hid hT
 have HR := Lib.hid hR
 have HWA := Lib.hid hwA
 have HTB := Lib.hid htb
 have hsW : w.heap.size ≤ wA.heap.size := hbA.size
 have hle : w.heap.size ≤ tb + 1 := by rw [htb]; omega
 have HP : Hid (LtsPtr lo wA tb t) := ⟨lv, ev, hT.lt, hT.cell 0 rfl, hT.cell 1 rfl, hT.cell 2 rfl, hT.cell 3 rfl, HL.out, HE.out⟩
 obtain ⟨i3, hi3, hz30, hz31, hz32⟩ := info_parts info_strssN
 clear hsh hl he  hwA hbA hT hR htb
 by_cases hv : Valid t
 ·have HV := Lib.hid hv
  have HVA : Hid (Calls Tryz.prog 16 #[.pointer (some ⟨tb, 0, none⟩)] wA fun e w' => e = .returned (.bool true) ∧ Below wA.heap.size wA w') := Decides.yes (l11Is_any _ lo t _ HSH.out HP.out) hv
  clear hv
  go_enter Tryz.func5, Tryz.ntmps5
  go_wp2_with fail
  rw [← HWA.out, ← HTB.out]
  refine Calls.mono HVA.out ?_
  rintro e w1 ⟨rfl, hb1⟩
  have HB1 := Lib.hid hb1
  have HR1 := Lib.hid (HR.out.below hb1)
  have HP1 := Lib.hid (HP.out.below hb1)
  have HD : Hid (Calls Tryz.prog 17 #[.pointer (some ⟨tb, 0, none⟩)] w1 (RetSets t w1)) := l12Sets_any _ lo t _ HV.out (HP.out.below hb1)
  clear hb1
  go_wp2_with fail
  refine Calls.mono HD.out ?_
  rintro e w3 ⟨hb3, ⟨hfull, rfl⟩ | ⟨st, lvS, vr, evS, hok, rfl, hmem, hol⟩⟩
  ·obtain ⟨W3, hW3⟩ : ∃ W3, W3 = w3.alloc (.cells #[.int .i64 0, .int .i64 0, .slice none 0 0, .slice none 0 0] 29) := ⟨_, rfl⟩
   have hb4 : Below w3.heap.size w3 W3 := by rw [hW3]; exact (Below.refl _ _).alloc (Nat.le_refl _) _
   have HF := Lib.hid hfull
   have HB4 := Lib.hid (HB1.out.trans ((hb3.trans (hb4.mono hb3.size)).mono HB1.out.size))
   have HR4 := Lib.hid ((HR1.out.below hb3).below hb4)
   have HW3 := Lib.hid hW3
   have r0 := HR4.out.cell 0 rfl
   have r1 := HR4.out.cell 1 rfl
   have r2 := HR4.out.cell 2 rfl
   have r3 := HR4.out.cell 3 rfl
   have s0 := HR4.out.frozen 0
   have s1 := HR4.out.frozen 1
   have s2 := HR4.out.frozen 2
   have s3 := HR4.out.frozen 3
   rw [hW3] at r0 r1 r2 r3 s0 s1 s2 s3
   clear hfull hb3 hb4 hW3
   go_wp2
   rw [← HW3.out]
   refine bodyPost_ret (snf_results rfl ((((HR4.out.set 0 _).set 1 _).set 2 _).set 3 _)) rfl ?_
   exact nf_none (((((HBA.out.trans (HB4.out.mono hsW)).setCell hle _).setCell hle _).setCell hle _).setCell hle _) (.inr (.inl ⟨HV.out, HF.out, rfl, rfl, rfl⟩))
  ·obtain ⟨la, lc, rfl, -, -⟩ := owns_slice hol
   obtain ⟨ea, ec, rfl, -, -⟩ := owns_slice hmem.2
   obtain ⟨⟨vs, hiv⟩, hme⟩ := hmem
   have hvr := hiv.1
   obtain ⟨ra, rc, rfl, -, -⟩ := owns_slice hiv.2.1
   obtain ⟨R, hRR⟩ : ∃ R, R = st.rows.length := ⟨_, rfl⟩
   obtain ⟨LN, hLN⟩ : ∃ LN, LN = t.labels.length := ⟨_, rfl⟩
   obtain ⟨EN, hEN⟩ : ∃ EN, EN = st.edges.length := ⟨_, rfl⟩
   have hR40 : R ≤ 40 := by rw [hRR]; exact hok.2.1
   rw [← hLN] at hol
   rw [← hEN] at hme
   rw [hvr, ← hRR, ← hLN, ← hEN]
   have hsv : SliceK 1 encV w1.heap.size w3 (.slice ra R rc) vs := by
    have h : SliceK 1 encV w1.heap.size w3 (.slice ra vs.length rc) vs := SliceK.of_owns encV_len rfl (by rw [flat_encV]; exact hiv.2.1)
    rw [hvr, ← hRR] at h
    exact h
   obtain ⟨W3, hW3⟩ : ∃ W3, W3 = w3.alloc (.cells #[.int .i64 R, .int .i64 0, .slice la LN lc, .slice ea EN ec] 29) := ⟨_, rfl⟩
   obtain ⟨db, hdb⟩ : ∃ db, db = w3.heap.size := ⟨_, rfl⟩
   have hb4 : Below w3.heap.size w3 W3 := by rw [hW3]; exact (Below.refl _ _).alloc (Nat.le_refl _) _
   have hX : Blk W3 db [.int .i64 R, .int .i64 0, .slice la LN lc, .slice ea EN ec] 29 := by rw [hW3, hdb]; exact Blk.new _ _ _
   have hss := Nat.le_trans hsW HB1.out.size
   have HOK := Lib.hid hok
   have HB4 := Lib.hid (HB1.out.trans ((hb3.trans (hb4.mono hb3.size)).mono HB1.out.size))
   have HR4 := Lib.hid ((HR1.out.below hb3).below hb4)
   have HP4 := Lib.hid ((HP1.out.below hb3).below hb4)
   have HX := Lib.hid hX
   have HME4 := Lib.hid (own_lower (owns_below hme hb4) hss)
   have HML4 := Lib.hid (own_lower (owns_below hol hb4) hss)
   have HSV4 := Lib.hid (hsv.below hb4)
   have HIV4 := Lib.hid (hiv.below hb4)
   have HW3 := Lib.hid hW3
   have HDB := Lib.hid hdb
   have HS3 : Hid (W3.heap.size = db + 1) := by unfold Hid; rw [hW3, hdb]; simp
   have HRR := Lib.hid hRR
   have HLN := Lib.hid hLN
   have HEN := Lib.hid hEN
   have HVR := Lib.hid hvr
   clear hok hb3 hb4 hW3 hdb hme hiv hol hRR hLN hEN hX hsv hvr
   go_wp2
   rw [← HW3.out]
   try rw [← HDB.out]
   go_loopw [8, 9] (fun v8 v9 wr => ∃ (i : Nat) (us : List Value) (uss : List (List Value)) (x : List (List (List ByteArray))), i ≤ R ∧ v9 = .int .i64 i ∧ Below W3.heap.size W3 wr ∧ OwnStrsss W3.heap.size wr v8 us uss x ∧ x.length = i ∧ ∀ j (h : j < x.length) (h' : j < st.rows.length), leastIs (offersS t st.rows[j]) x[j]) (fun _ v9 _ => R - (intOf v9).toNat)
   case atStart => exact ⟨0, [], [], [], Nat.zero_le _, rfl, (Below.refl _ _).alloc (Nat.le_refl _) _, ⟨by have h := World.ownsRow_lit (e := 46) (size := 1) W3 #[] 0 (Nat.le_refl _) (by simp [maxLen]) rfl; rw [HS3.out] at h ⊢; exact h, Pile.nil _ _ _, Pile.nil _ _ _, rfl⟩, rfl, fun _ h => absurd h (Nat.not_lt_zero _)⟩
   case round =>
    obtain ⟨i, us, uss, x, hi, rfl, hbl, hox, hxl, hls⟩ := hrel
    obtain ⟨wC, rfl⟩ : ∃ wC : World, wC = wr := ⟨_, rfl⟩
    have HBL := Lib.hid hbl
    have HOX := Lib.hid hox
    have HLS := Lib.hid hls
    have hszC := hbl.size
    have hul : us.length = i := by rw [hox.len.1, hxl]
    have HXL := Lib.hid hxl
    have HUL := Lib.hid hul
    obtain ⟨oa, oc, rfl, -, -⟩ := owns_slice hox.out
    rw [hul]
    clear hls
    by_cases hlt : i < R
    ·have hir : i < st.rows.length := by rw [← HRR.out]; exact hlt
     have hiv2 : i < vs.length := by rw [HVR.out]; exact hir
     obtain ⟨a9, c9, e9, -, -, hrow⟩ := HSV4.out.below hbl
     simp only [Value.slice.injEq] at e9
     obtain ⟨rfl, -, -⟩ := e9
     obtain ⟨b, o, rfl, -, hbw, cx⟩ := hrow.one hiv2
     simp only [encV, List.getElem?_cons_zero] at cx
     have hrw := (OwnIntss.below HIV4.out hbl).2.2.1 i hiv2 hir
     have hsk : SliceK 1 encI w1.heap.size wC vs[i] st.rows[i] := SliceK.of_owns (e := 2) encI_len rfl (by rw [flat_encI]; exact hrw)
     have hsl : st.rows[i].length ≤ 1000 := by
      have hG := dok_good HV.out HOK.out
      have hs := HV.out.st1
      have h0 := HV.out.st0
      have hm : st.rows[i] ∈ st.rows := List.getElem_mem _
      have := asc_few 40 _ (hG.rows _ hm).2.1 (fun x hx => by have := (hG.rows _ hm).1 x hx; omega)
      omega
     have HL9 := Lib.hid (l18Least_any tb lo w1.heap.size t vs[i] st.rows[i] wC HV.out (HP4.out.below hbl) hsk hsl)
     obtain ⟨sv, hsv⟩ : ∃ sv, sv = vs[i] := ⟨_, rfl⟩
     rw [← hsv] at cx HL9
     obtain ⟨sa, sc, hse, -⟩ := id hsk
     obtain ⟨sn, hsn⟩ : ∃ sn, sn = st.rows[i].length := ⟨_, rfl⟩
     rw [← hsn] at hse
     rw [← hsv] at hse
     subst hse
     clear hbl hox hrow hrw hsk hsl hxl hul hsn hsv
     go_wp2_with fail
     refine Calls.mono HL9.out ?_
     rintro e w5 ⟨v5, ys, L, rfl, hb5, ho5, hl5⟩
     obtain ⟨a5, c5, rfl, -, -⟩ := owns_slice ho5.out
     obtain ⟨n5, hn5⟩ : ∃ n5, n5 = ys.length := ⟨_, rfl⟩
     rw [← hn5]
     have HN5 := Lib.hid hn5
     have HB5 := Lib.hid hb5
     have HO5 := Lib.hid ho5
     have HL5 := Lib.hid hl5
     have HOW := Lib.hid (owns_below HOX.out.out hb5)
     rw [HUL.out] at HOW
     have hs5 := hb5.size
     have hsz5 : W3.heap.size ≤ w5.heap.size := Nat.le_trans hszC hs5
     clear hn5 hb5 ho5 hl5 cx HL9
     go_wp2_with (at_builtin; refine wpList_append_own _ rfl _ _ 30 rfl W3.heap.size 46 i3 (.slice none 0 0) 1 24 Tryz.underlying30 hi3 hz30 hz31 hz32 rfl (by decide) _ i _ rfl (HOW.out.alloc _) ⟨w5.heap.size, 0, none⟩ 1 1 [.slice a5 n5 c5] rfl rfl ?c1 ?c2 ?c3 ?c4 ?c5 ?_)
     case c1 => exact World.news_of_block (cs := #[.slice a5 n5 c5]) (t := 46) (fr := (0, 0)) (heap_alloc_new _ _)
     case c2 => intro u hu; simp at hu; subst hu; rfl
     case c3 => simp [maxLen]; omega
     case c4 => omega
     case c5 => simp; omega
     intro v7 w7 ho7 hg7 _
     have HP7 : Hid (OwnStrsss W3.heap.size w7 v7 (us ++ [.slice a5 n5 c5]) (uss ++ [ys]) (x ++ [L])) := by
      refine ownStrsss_push HOX.out (Nat.le_refl _) (HB5.out.alloc hs5 (.cells #[.slice a5 n5 c5] 46)) (by have h := HO5.out.below ((Below.refl _ _).alloc (Nat.le_refl _) (.cells #[.slice a5 n5 c5] 46)); rw [HN5.out]; rw [HN5.out] at h; exact h) hszC ?_ ?_
      ·rw [HUL.out]; exact hg7
      ·rw [HUL.out]; exact ho7
     have HB7 : Hid (Below W3.heap.size W3 w7) := ((HBL.out.trans (HB5.out.mono hszC)).alloc hsz5 _).grown hg7 (by simp; omega) (fun b e => (HOW.out.lt b e).1)
     clear ho7 hg7
     go_wp2
     go_roundw
     case rel => exact ⟨i + 1, _, _, x ++ [L], by omega, by go_num, HB7.out, HP7.out, by rw [List.length_append, HXL.out]; rfl, fun j h h' => by
      by_cases e : j < x.length
      ·rw [List.getElem_append_left e]
       exact HLS.out j e h'
      ·have e2 : j = x.length := by rw [List.length_append] at h; simp at h; omega
       subst e2
       rw [List.getElem_concat_length rfl]
       have e3 := get_sameNfN HXL.out h' hir
       rw [e3]
       exact HL5.out⟩
     case measure => simp [intOf]; omega
    ·obtain rfl : i = R := by omega
     have HB9 := Lib.hid (HB4.out.trans (hbl.mono HB4.out.size))
     have HR9 := Lib.hid (HR4.out.below hbl)
     have HX9 := HX.out.below hbl
     have HME9 := Lib.hid (owns_below HME4.out hbl)
     have HML9 := Lib.hid (owns_below HML4.out hbl)
     have hW3 : w.heap.size ≤ W3.heap.size := Nat.le_trans hsW HB4.out.size
     have HOX9 := Lib.hid (hox.lower hW3)
     have HFT : Hid (FarT (.slice la LN lc) uss) := FarT.later HML4.out hox.rows (Nat.le_refl _)
     have d0 := HX9.cell 0 rfl
     have d1 := HX9.cell 1 rfl
     have d2 := HX9.cell 2 rfl
     have d3 := HX9.cell 3 rfl
     have hdl := HX9.lt
     have r0 := HR9.out.cell 0 rfl
     have r1 := HR9.out.cell 1 rfl
     have r2 := HR9.out.cell 2 rfl
     have r3 := HR9.out.cell 3 rfl
     have s0 := HR9.out.frozen 0
     have s1 := HR9.out.frozen 1
     have s2 := HR9.out.frozen 2
     have s3 := HR9.out.frozen 3
     clear hbl hox HX9 hxl hul
     go_wp2
     refine bodyPost_ret (snf_results rfl ((((HR9.out.set 0 _).set 1 _).set 2 _).set 3 _)) rfl ?_
     refine ⟨((((HBA.out.trans (HB9.out.mono hsW)).setCell hle _).setCell hle _).setCell hle _).setCell hle _, dSys t st, x, 0, .slice la LN lc, .slice ea EN ec, .slice oa i oc, us, uss, by rw [HRR.out]; rfl, ⟨st.rows, .inr (.inr ⟨HV.out, st, HOK.out, rfl, rfl, rfl⟩), by rw [HXL.out, HRR.out], HLS.out⟩, ⟨?_, ?_⟩, ?_, HFT.out⟩
     ·show World.ownsRow _ _ _ _ _ t.labels.length _
      rw [← HLN.out]; exact own4 HR9.out HML9.out (by decide)
     ·show World.ownsRow _ _ _ _ _ st.edges.length _
      rw [← HEN.out]; exact own4 HR9.out HME9.out (by decide)
     ·have h := (((HOX9.out.set1 HR9.out 0 (.int .i64 ((i : Nat) : Int))).set1 (HR9.out.set 0 _) 1 (.int .i64 0)).set1 ((HR9.out.set 0 _).set 1 _) 2 (.slice la LN lc)).set1 (((HR9.out.set 0 _).set 1 _).set 2 _) 3 (.slice ea EN ec)
      first | exact h | (rw [HUL.out] at h; exact h)
 ·have HV := Lib.hid hv
  have HVA : Hid (Calls Tryz.prog 16 #[.pointer (some ⟨tb, 0, none⟩)] wA fun e w' => e = .returned (.bool false) ∧ Below wA.heap.size wA w') := Decides.no (l11Is_any _ lo t _ HSH.out HP.out) hv
  clear hv
  go_enter Tryz.func5, Tryz.ntmps5
  go_wp2_with fail
  rw [← HWA.out, ← HTB.out]
  refine Calls.mono HVA.out ?_
  rintro e w1 ⟨rfl, hb1⟩
  have HB1 := Lib.hid hb1
  have HR1 := Lib.hid (HR.out.below hb1)
  have r0 := HR1.out.cell 0 rfl
  have r1 := HR1.out.cell 1 rfl
  have r2 := HR1.out.cell 2 rfl
  have r3 := HR1.out.cell 3 rfl
  have s0 := HR1.out.frozen 0
  have s1 := HR1.out.frozen 1
  have s2 := HR1.out.frozen 2
  have s3 := HR1.out.frozen 3
  clear hb1
  go_wp2
  refine bodyPost_ret (snf_results rfl ((((HR1.out.set 0 _).set 1 _).set 2 _).set 3 _)) rfl ?_
  exact nf_none (((((HBA.out.trans (HB1.out.mono hsW)).setCell hle _).setCell hle _).setCell hle _).setCell hle _) (.inl ⟨HV.out, rfl, rfl, rfl⟩)

end Go.Proofs.YtodojigmhlkpeaaGreatDoor

namespace Go.Proofs.YtodojigmhlkpeaaGreatDoor
open Go Go.RowKit

theorem list_same {xs ys : List ByteArray} (hl : xs.length = ys.length) (h : ∀ j (h1 : j < xs.length) (h2 : j < ys.length), xs[j].toList = ys[j].toList) : xs = ys :=
 List.ext_getElem hl fun j h1 h2 => toList_inj (h j h1 h2)
set_option maxRecDepth 100000 in
set_option maxHeartbeats 1000000 in
theorem EqualS_any (lo lo' : Nat) (va vb : Value) (xs ys : List ByteArray) (w : World) (hva : SliceK 1 encS lo w va xs) (hvb : SliceK 1 encS lo' w vb ys) (_hz : xs.length ≤ 1048576) (_hz2 : ys.length ≤ 1048576) :
  Calls Tryz.prog 49 #[va, vb] w fun e w' => ∃ b : Bool, e = .returned (.bool b) ∧ (b = true ↔ xs = ys) ∧ Below w.heap.size w w' := by
 obtain ⟨a, ca, rfl, hna, hca, ha⟩ := hva
 obtain ⟨b, cb, rfl, hnb, hcb, hb⟩ := hvb
 have HA := Lib.hid ha
 have HB := Lib.hid hb
 obtain ⟨N, hN⟩ : ∃ N, N = xs.length := ⟨_, rfl⟩
 obtain ⟨M, hM⟩ : ∃ M, M = ys.length := ⟨_, rfl⟩
 rw [← hN] at hna ⊢
 rw [← hM] at hnb ⊢
 have HN := Lib.hid hN
 have HM := Lib.hid hM
 clear ha hb hN hM hna hca hnb hcb
 by_cases hl : N = M
 ·have HL := Lib.hid hl
  have hlb : ((N : Int) == (M : Int)) = true := by rw [beq_iff_eq]; omega
  clear hl
  go_enter Tryz.func49, Tryz.ntmps49
  go_wp2
  go_loopw [13] (fun i wr => ∃ k : Nat, k ≤ N ∧ i = .int .i64 k ∧ Below w.heap.size w wr ∧ ∀ j (h1 : j < xs.length) (h2 : j < ys.length), j < k → xs[j].toList = ys[j].toList) (fun i _ => N - (intOf i).toNat)
  case atStart => exact ⟨0, Nat.zero_le _, rfl, Below.refl _ _, fun _ _ _ h => by omega⟩
  case round =>
   obtain ⟨k, hk, rfl, hbl, hx⟩ := hrel
   have HX := Lib.hid hx
   have HBL := Lib.hid hbl
   clear hx
   by_cases hlt : k < N
   ·have hl1 : k < xs.length := by have := HN.out; omega
    have hl2 : k < ys.length := by have := HM.out; have := HL.out; omega
    have hkM : k < M := by have := HL.out; omega
    obtain ⟨b1, o1, rfl, -, h1, c1⟩ := (HA.out.below hbl).one hl1
    obtain ⟨b2, o2, rfl, -, h2, c2⟩ := (HB.out.below hbl).one hl2
    simp only [encS, List.getElem?_cons_zero] at c1 c2
    obtain ⟨x, hx⟩ : ∃ x, x = xs[k] := ⟨_, rfl⟩
    obtain ⟨y, hy⟩ : ∃ y, y = ys[k] := ⟨_, rfl⟩
    rw [← hx] at c1
    rw [← hy] at c2
    have HXX := Lib.hid hx
    have HYY := Lib.hid hy
    clear hbl hx hy
    cases hxy : (x.toList == y.toList)
    ·have HF : Hid (¬ xs = ys) := fun e => by
      subst e
      rw [HXX.out, HYY.out, beq_self_eq_true] at hxy
      cases hxy
     go_wp2
     go_quiet (fail)
     go_wp2
     go_ret
     exact ⟨_, rfl, ⟨(fun h => by cases h), fun h => absurd h HF.out⟩, drews HBL.out _⟩
    ·have HF : Hid (xs[k].toList = ys[k].toList) := by
      rw [beq_iff_eq, HXX.out, HYY.out] at hxy
      exact hxy
     go_wp2
     go_quiet (fail)
     go_wp2
     go_roundw
     case rel => exact ⟨k + 1, by omega, by go_num, drews HBL.out _, fun j h1 h2 hj => by
      by_cases e : j = k
      ·subst e; exact HF.out
      ·exact HX.out j h1 h2 (by omega)⟩
     case measure => simp [intOf]; omega
   ·have HF : Hid (xs = ys) := list_same (by rw [← HN.out, ← HM.out, HL.out]) fun j h1 h2 => HX.out j h1 h2 (by have := HN.out; omega)
    clear hbl
    go_wp2
    go_ret
    exact ⟨_, rfl, ⟨fun _ => HF.out, fun _ => rfl⟩, HBL.out⟩
 ·have HL : Hid (¬ xs = ys) := fun e => hl (by rw [HN.out, HM.out, e])
  have hlb : ((N : Int) == (M : Int)) = false := by rw [beq_eq_false_iff_ne]; omega
  clear hl
  go_enter Tryz.func49, Tryz.ntmps49
  go_wp2
  go_ret
  exact ⟨_, rfl, ⟨(fun h => by cases h), fun h => absurd h HL.out⟩, Below.refl _ _⟩

end Go.Proofs.YtodojigmhlkpeaaGreatDoor
