/-
  The reference's l11Join: the set of all labels.
-/
import Derived.Test.YtpoleaekcjjedaaGreatDoorF11
import Derived.Test.YtpoleaekcjjedaaGreatDoorF7
namespace Go.Proofs.YtpoleaekcjjedaaGreatDoor
open Go Go.RowKit

theorem labSet_step (ls : List ByteArray) {i : Nat} (h : i < ls.length) : labSet (tauT :: ls.take (i + 1)) = labSet (tauT :: (ls.take i ++ [ls[i]])) := by rw [List.take_succ_eq_append_getElem h]

set_option maxRecDepth 100000 in
set_option maxHeartbeats 4000000 in
theorem l11Join_any (lo : Nat) (v : Value) (ls : List ByteArray) (w : World) (hv : SliceK 1 encS lo w v ls) (hn : ls.length ≤ 1000) :
  Calls Tryz.prog 112 #[v] w fun e w' => ∃ v', e = .returned v' ∧ Below w.heap.size w w' ∧ w'.ownsRow w.heap.size 9 1 v' (labSet (tauT :: ls)).length ((labSet (tauT :: ls)).map .string) := by
 obtain ⟨a, c, rfl, hc, hc2, hrow⟩ := hv
 have HR := Lib.hid hrow
 obtain ⟨N, hN⟩ : ∃ N, N = ls.length := ⟨_, rfl⟩
 rw [← hN] at hc hn ⊢
 have HN := Lib.hid hN
 obtain ⟨i0, hi, hz0, hz1, hz2⟩ := info_parts info_strJ
 obtain ⟨W, hW⟩ : ∃ W, W = w.alloc (.cells #[.string ⟨#[116, 97, 117]⟩] 9) := ⟨_, rfl⟩
 have HB0 : Hid (Below w.heap.size w W) := by unfold Hid; rw [hW]; exact (Below.refl _ _).alloc (Nat.le_refl _) _
 have HO0 : Hid (W.ownsRow w.heap.size 9 1 (.slice (some ⟨w.heap.size, 0, none⟩) 1 1) 1 ([tauT].map .string)) := by
  unfold Hid
  rw [hW]
  exact World.ownsRow_lit (base := w.heap.size) (e := 9) (size := 1) w #[.string ⟨#[116, 97, 117]⟩] 1 (Nat.le_refl _) (by decide) rfl
 have HW := Lib.hid hW
 clear hrow hN hW
 go_enter Tryz.func112, Tryz.ntmps112
 go_wp2
 rw [← HW.out]
 go_loopw [3, 4] (fun v3 v4 wr => ∃ (i : Nat) (L : List ByteArray), v4 = .int .i64 i ∧ i ≤ N ∧ L = labSet (tauT :: ls.take i) ∧ L.length ≤ i + 1 ∧ Below w.heap.size w wr ∧ wr.ownsRow w.heap.size 9 1 v3 L.length (L.map .string)) (fun _ v4 _ => N - (intOf v4).toNat)
 case atStart => exact ⟨0, [tauT], rfl, Nat.zero_le _, by rw [List.take_zero, tau_one], by simp, HB0.out, HO0.out⟩
 case round =>
  clear HB0 HO0
  obtain ⟨i, L, rfl, hiN, hL, hLl, hbl, ho⟩ := hrel
  obtain ⟨wC, rfl⟩ : ∃ wC : World, wC = wr := ⟨_, rfl⟩
  have HL := Lib.hid hL
  have HBL := Lib.hid hbl
  have HO := Lib.hid ho
  have hsz := hbl.size
  have HINO : Hid (InOrd L) := by unfold Hid; rw [hL]; exact InOrd.set _
  have hLpos := HINO.out.pos
  obtain ⟨oa, oc, rfl, -, -⟩ := owns_slice ho
  obtain ⟨M, hM⟩ : ∃ M, M = L.length := ⟨_, rfl⟩
  rw [← hM] at hLl hLpos ho HO ⊢
  have HM := Lib.hid hM
  by_cases hlt : i < N
  ·have hil : i < ls.length := by rw [← HN.out]; exact hlt
   obtain ⟨b, o, rfl, -, hbw0, c00⟩ := HR.out.one hil
   simp only [encS, List.getElem?_cons_zero] at c00
   obtain ⟨x, hx⟩ : ∃ x, x = ls[i] := ⟨_, rfl⟩
   rw [← hx] at c00
   have hbw : b < wC.heap.size := Nat.lt_of_lt_of_le hbw0 hsz
   have c0 := keeps hbl hbw0 c00
   have HCL : Hid (∀ w', Below w.heap.size w w' → w'.cell? ⟨b, o + i, none⟩ = some (.string x)) := fun w' hb => keeps hb hbw0 c00
   clear c00
   have HST : Hid (labSet (tauT :: ls.take (i + 1)) = labSet (tauT :: (ls.take i ++ [x]))) := by unfold Hid; rw [hx]; exact labSet_step ls hil
   have HFI := Lib.hid (l11Find_any w.heap.size (.slice oa M oc) L x wC (SliceK.of_owns (enc := encS) (e := 9) encS_len HM.out (by rw [flat_encS]; exact ho)))
   obtain ⟨og, hog, hogB, hogw⟩ : ∃ og, oa = some ⟨og, 0, none⟩ ∧ w.heap.size ≤ og ∧ og < wC.heap.size := by
    rcases ho.2 with ⟨h, h0⟩ | ⟨g, cap, cur, h, h1, hg, -⟩
    ·omega
    ·simp only [Value.slice.injEq, true_and] at h
     exact ⟨g, h.1, h1, (Array.getElem?_eq_some_iff.1 hg).1⟩
   subst hog
   have HC0 := Lib.hid c0
   by_cases hneg : textAt L x < 0
   ·have hno : ∀ y ∈ L, y.toList ≠ x.toList := by
     have h1 := textAt_neg.1 hneg
     rw [List.any_eq_false] at h1
     intro y hy e
     exact h1 y hy (by rw [e]; simp)
    have HNO := Lib.hid hno
    obtain ⟨tx, htx⟩ : ∃ tx, tx = textAt L x := ⟨_, rfl⟩
    rw [← htx] at HFI hneg
    clear hL hbl ho hM hx hno htx
    go_wp2_with fail
    refine Calls.mono HFI.out ?_
    rintro e w1 ⟨rfl, hb1⟩
    have HB1 := Lib.hid (HBL.out.trans (hb1.mono hsz))
    have HO1 := Lib.hid (owns_below HO.out hb1)
    have HC1 := Lib.hid (keeps hb1 hbw HC0.out)
    have hbw1 : b < w1.heap.size := Nat.lt_of_lt_of_le hbw hb1.size
    have hogw1 : og < w1.heap.size := Nat.lt_of_lt_of_le hogw hb1.size
    have hs1 : w.heap.size ≤ w1.heap.size := HB1.out.size
    clear hb1 c0 HC0
    go_wp2
    go_loopw [5] (fun v5 wr => ∃ k : Nat, v5 = .int .i64 k ∧ 1 ≤ k ∧ k ≤ M ∧ (∀ j (h : j < L.length), 1 ≤ j → j < k → strLess L[j] x = true) ∧ Below w1.heap.size w1 wr) (fun v5 _ => M - (intOf v5).toNat)
    case atStart => exact ⟨1, rfl, Nat.le_refl _, by omega, (fun j _ h1 h2 => by omega), Below.refl _ _⟩
    case round =>
     obtain ⟨k, rfl, hk1, hkM, hlo, hb2⟩ := hrel
     obtain ⟨w2, rfl⟩ : ∃ w2 : World, w2 = wr := ⟨_, rfl⟩
     have HLO := Lib.hid hlo
     have HB2 := Lib.hid hb2
     have HO2 := Lib.hid (owns_below HO1.out hb2)
     have c2 := keeps hb2 hbw1 HC1.out
     have hbw2 : b < w2.heap.size := Nat.lt_of_lt_of_le hbw1 hb2.size
     have hogw2 : og < w2.heap.size := Nat.lt_of_lt_of_le hogw1 hb2.size
     have hs2 : w.heap.size ≤ w2.heap.size := Nat.le_trans hs1 hb2.size
     have lc2 := later_cell hbw2 c2
     clear hlo hb2
     by_cases hgo : ∃ h : k < L.length, strLess L[k] x = true
     ·obtain ⟨hkL, hs⟩ := hgo
      have hkl : k < M := by rw [HM.out]; exact hkL
      have ck := HO2.out.cellAt k (by omega)
      rw [List.getElem?_map, List.getElem?_eq_getElem hkL, Option.map_some] at ck
      have HLS : Hid (∀ j (h : j < L.length), 1 ≤ j → j < k + 1 → strLess L[j] x = true) := fun j h h1 h2 => by
       by_cases e : j = k
       ·subst e; exact hs
       ·exact HLO.out j h h1 (by omega)
      obtain ⟨y, hy⟩ : ∃ y, y = L[k] := ⟨_, rfl⟩
      rw [← hy] at ck hs
      have lck := later_cell hogw2 ck
      unfold strLess at hs
      clear hy ck c2
      go_wp2
      refine wp_region_later (by kernel_rfl) (by kernel_rfl) ?_
      repeat (go_big_quiet_step ((fail)))
      refine wpQuiet_nil ?_
      intro _ hw9
      obtain ⟨nl, hw8⟩ := hw9
      subst hw8
      have HB3 := Lib.hid (HB2.out.trans (nl.h.mono HB2.out.size))
      clear lc2 lck
      go_wp2
      go_roundw
      case rel => exact ⟨k + 1, by go_num, by omega, by omega, HLS.out, HB3.out⟩
      case measure => simp [intOf]; omega
     ·have HHI : Hid (∀ h : k < L.length, strLess L[k] x = false) := fun h => by
       cases hs : strLess L[k] x with
       | false => rfl
       | true => exact absurd ⟨h, hs⟩ hgo
      have HPUT : Hid (L.take k ++ x :: L.drop k = labSet (tauT :: ls.take (i + 1))) := by unfold Hid; rw [HST.out]; exact InOrd.put HL.out HNO.out hk1 (by rw [← HM.out]; exact hkM) HLO.out HHI.out
      -- the walk from the search's end on, once
      have REST : ∀ (w3 : World), Below w2.heap.size w2 w3 → Below w.heap.size w w3 ∧ w3.ownsRow w.heap.size 9 1 (.slice (some ⟨og, 0, none⟩) M oc) M (L.map .string) ∧ w3.cell? ⟨b, o + i, none⟩ = some (.string x) := fun w3 hb3 => ⟨HB1.out.trans ((HB2.out.trans (hb3.mono HB2.out.size)).mono hs1), owns_below HO2.out hb3, keeps hb3 hbw2 c2⟩
      have HREST := Lib.hid REST
      clear REST hgo
      by_cases hkl : k < M
      ·have hkL : k < L.length := by rw [← HM.out]; exact hkl
       have ck := HO2.out.cellAt k (by omega)
       rw [List.getElem?_map, List.getElem?_eq_getElem hkL, Option.map_some] at ck
       have hs := HHI.out hkL
       obtain ⟨y, hy⟩ : ∃ y, y = L[k] := ⟨_, rfl⟩
       rw [← hy] at ck hs
       have lck := later_cell hogw2 ck
       unfold strLess at hs
       clear hy ck c2
       go_wp2
       refine wp_region_later (by kernel_rfl) (by kernel_rfl) ?_
       repeat (go_big_quiet_step ((fail)))
       refine wpQuiet_nil ?_
       intro _ hw9
       obtain ⟨nl, hw8⟩ := hw9
       subst hw8
       have H3 := HREST.out nl.w nl.h
       obtain ⟨w3, hw3⟩ : ∃ w3, w3 = nl.w := ⟨_, rfl⟩
       rw [← hw3] at H3 ⊢
       clear hw3 lck lc2 hs
       obtain ⟨HB3, HO3, c3⟩ := H3
       replace HB3 := Lib.hid HB3
       replace HO3 := Lib.hid HO3
       replace c3 := Lib.hid c3
       have hs3 := HB3.out.size
       have hbw3 : b < w3.heap.size := World.block_lt_of_cell? _ _ c3.out
       go_wp2_with (at_builtin; refine wpList_append_own _ rfl _ _ 22 rfl w.heap.size 9 i0 (.string ⟨#[]⟩) 1 16 Tryz.underlying22 hi hz0 hz1 hz2 rfl (by decide) _ M _ rfl (HO3.out.alloc _) ⟨w3.heap.size, 0, none⟩ 1 1 [.string ⟨#[]⟩] rfl rfl ?d1 ?d2 ?d3 ?d4 ?d5 ?_)
       case d1 => exact World.news_of_block (cs := #[.string ⟨#[]⟩]) (t := 9) (fr := (0, 0)) (heap_alloc_new _ _)
       case d2 => intro u hu; simp at hu; subst hu; rfl
       case d3 => simp [maxLen]; omega
       case d4 => omega
       case d5 => simp; omega
       intro v4 w4 ho4 hg4 _
       have HB4 : Hid (Below w.heap.size w w4) := (HB3.out.alloc hs3 _).grown hg4 (by simp; omega) (fun b e => (HO3.out.lt b e).1)
       have HO4 : Hid (w4.ownsRow w.heap.size 9 1 v4 (M + 1) ((shiftAt L ⟨#[]⟩ M).map .string)) := by
        unfold Hid
        rw [HM.out, ← shiftAt_end, List.map_append, ← HM.out]
        exact ho4
       obtain ⟨g4, cap4, rfl⟩ : ∃ g4 cap4, v4 = .slice (some ⟨g4, 0, none⟩) (M + 1) cap4 := by
        rcases HO4.out.2 with ⟨h, h0⟩ | ⟨g, cap, cur, h, -⟩
        ·omega
        ·exact ⟨g, cap, h⟩
       clear ho4 hg4 HB3 HO3 c3 hs3 hbw3
       go_wp2
       go_loopw [6] (fun v6 wr => ∃ (m : Nat) (junk : ByteArray), v6 = .int .i64 m ∧ k ≤ m ∧ m ≤ M ∧ Below w.heap.size w wr ∧ wr.ownsRow w.heap.size 9 1 (.slice (some ⟨g4, 0, none⟩) (M + 1) cap4) (M + 1) ((shiftAt L junk m).map .string)) (fun v6 _ => (intOf v6).toNat)
       case atStart => exact ⟨M, ⟨#[]⟩, by go_num, hkM, Nat.le_refl _, HB4.out, HO4.out⟩
       case round =>
        clear HB4 HO4
        obtain ⟨m, junk, rfl, hkm, hmM, hb5, ho5⟩ := hrel
        obtain ⟨w5, rfl⟩ : ∃ w5 : World, w5 = wr := ⟨_, rfl⟩
        have HB5 := Lib.hid hb5
        have HO5 := Lib.hid ho5
        have hs5 := hb5.size
        have hbw5 : b < w5.heap.size := Nat.lt_of_lt_of_le hbw0 hs5
        have hgB : w.heap.size ≤ g4 := (ho5.lt g4 rfl).1
        by_cases hmk : k < m
        ·have hm1 : 1 ≤ m := by omega
         have hmL : m ≤ L.length := by rw [← HM.out]; exact hmM
         have cg := ho5.cellAt (m - 1) (by omega)
         rw [List.getElem?_map, shiftAt_get hm1 hmL, Option.map_some] at cg
         obtain ⟨xc, ct⟩ := own_cell ho5 m (by omega)
         have f5 := ho5.frozenAt m
         have hst := ho5.stored m (.string (L[m - 1]'(by omega)))
         rw [← List.map_set, shiftAt_set hm1 hmL] at hst
         have HST := Lib.hid hst.1
         obtain ⟨y, hy⟩ : ∃ y, y = L[m - 1]'(by omega) := ⟨_, rfl⟩
         rw [← hy] at cg HST
         obtain ⟨p, rfl⟩ : ∃ p, m = p + 1 := ⟨m - 1, by omega⟩
         rw [Nat.add_sub_cancel] at cg HST
         have hpi : ((p + 1 : Nat) : Int) = (p : Int) + 1 := by omega
         rw [hpi]
         clear hst hb5 ho5 hy hpi
         go_wp2
         go_roundw
         case rel => exact ⟨p, y, by go_num, by omega, by omega, HB5.out.setCell hgB _, HST.out⟩
         case measure => (first | (simp [intOf]; done) | (simp [intOf]; omega))
        ·have hmk2 : m = k := by omega
         subst hmk2
         have ci := HCL.out w5 hb5
         obtain ⟨xc, ct⟩ := own_cell ho5 m (by omega)
         have f5 := ho5.frozenAt m
         have hst := (ho5.stored m (.string x)).1
         rw [← List.map_set, shiftAt_put (by rw [← HM.out]; exact hmM), HPUT.out] at hst
         have hle : (labSet (tauT :: ls.take (i + 1))).length = M + 1 := by
          have := hst.1
          rw [List.length_map] at this
          omega
         have HST := Lib.hid hst
         have HLE := Lib.hid hle
         clear hst hb5 ho5 hle
         go_wp2
         go_roundw
         case rel => exact ⟨i + 1, labSet (tauT :: ls.take (i + 1)), by go_num, by omega, rfl, by rw [HLE.out]; omega, HB5.out.setCell hgB _, by rw [HLE.out]; exact HST.out⟩
         case measure => simp [intOf]; omega
      ·have HKM : Hid (k = M) := by unfold Hid; omega
       clear c2
       go_wp2
       refine wp_region_later (by kernel_rfl) (by kernel_rfl) ?_
       repeat (go_big_quiet_step ((fail)))
       refine wpQuiet_nil ?_
       intro _ hw9
       obtain ⟨nl, hw8⟩ := hw9
       subst hw8
       have H3 := HREST.out nl.w nl.h
       obtain ⟨w3, hw3⟩ : ∃ w3, w3 = nl.w := ⟨_, rfl⟩
       rw [← hw3] at H3 ⊢
       clear hw3 lc2
       obtain ⟨HB3, HO3, c3⟩ := H3
       replace HB3 := Lib.hid HB3
       replace HO3 := Lib.hid HO3
       replace c3 := Lib.hid c3
       have hs3 := HB3.out.size
       have hbw3 : b < w3.heap.size := World.block_lt_of_cell? _ _ c3.out
       go_wp2_with (at_builtin; refine wpList_append_own _ rfl _ _ 22 rfl w.heap.size 9 i0 (.string ⟨#[]⟩) 1 16 Tryz.underlying22 hi hz0 hz1 hz2 rfl (by decide) _ M _ rfl (HO3.out.alloc _) ⟨w3.heap.size, 0, none⟩ 1 1 [.string ⟨#[]⟩] rfl rfl ?d1 ?d2 ?d3 ?d4 ?d5 ?_)
       case d1 => exact World.news_of_block (cs := #[.string ⟨#[]⟩]) (t := 9) (fr := (0, 0)) (heap_alloc_new _ _)
       case d2 => intro u hu; simp at hu; subst hu; rfl
       case d3 => simp [maxLen]; omega
       case d4 => omega
       case d5 => simp; omega
       intro v4 w4 ho4 hg4 _
       have HB4 : Hid (Below w.heap.size w w4) := (HB3.out.alloc hs3 _).grown hg4 (by simp; omega) (fun b e => (HO3.out.lt b e).1)
       have HO4 : Hid (w4.ownsRow w.heap.size 9 1 v4 (M + 1) ((shiftAt L ⟨#[]⟩ M).map .string)) := by
        unfold Hid
        rw [HM.out, ← shiftAt_end, List.map_append, ← HM.out]
        exact ho4
       obtain ⟨g4, cap4, rfl⟩ : ∃ g4 cap4, v4 = .slice (some ⟨g4, 0, none⟩) (M + 1) cap4 := by
        rcases HO4.out.2 with ⟨h, h0⟩ | ⟨g, cap, cur, h, -⟩
        ·omega
        ·exact ⟨g, cap, h⟩
       clear ho4 hg4 HB3 HO3 c3 hs3 hbw3
       go_wp2
       go_loopw [6] (fun v6 wr => ∃ (m : Nat) (junk : ByteArray), v6 = .int .i64 m ∧ k ≤ m ∧ m ≤ M ∧ Below w.heap.size w wr ∧ wr.ownsRow w.heap.size 9 1 (.slice (some ⟨g4, 0, none⟩) (M + 1) cap4) (M + 1) ((shiftAt L junk m).map .string)) (fun v6 _ => (intOf v6).toNat)
       case atStart => exact ⟨M, ⟨#[]⟩, by go_num, hkM, Nat.le_refl _, HB4.out, HO4.out⟩
       case round =>
        clear HB4 HO4
        obtain ⟨m, junk, rfl, hkm, hmM, hb5, ho5⟩ := hrel
        obtain ⟨w5, rfl⟩ : ∃ w5 : World, w5 = wr := ⟨_, rfl⟩
        have HB5 := Lib.hid hb5
        have HO5 := Lib.hid ho5
        have hs5 := hb5.size
        have hbw5 : b < w5.heap.size := Nat.lt_of_lt_of_le hbw0 hs5
        have hgB : w.heap.size ≤ g4 := (ho5.lt g4 rfl).1
        by_cases hmk : k < m
        ·exfalso; have := HKM.out; omega
        ·have hmk2 : m = k := by omega
         subst hmk2
         have ci := HCL.out w5 hb5
         obtain ⟨xc, ct⟩ := own_cell ho5 m (by omega)
         have f5 := ho5.frozenAt m
         have hst := (ho5.stored m (.string x)).1
         rw [← List.map_set, shiftAt_put (by rw [← HM.out]; exact hmM), HPUT.out] at hst
         have hle : (labSet (tauT :: ls.take (i + 1))).length = M + 1 := by
          have := hst.1
          rw [List.length_map] at this
          omega
         have HST := Lib.hid hst
         have HLE := Lib.hid hle
         clear hst hb5 ho5 hle
         go_wp2
         go_roundw
         case rel => exact ⟨i + 1, labSet (tauT :: ls.take (i + 1)), by go_num, by omega, rfl, by rw [HLE.out]; omega, HB5.out.setCell hgB _, by rw [HLE.out]; exact HST.out⟩
         case measure => simp [intOf]; omega
   ·obtain ⟨n, hn1, hn2, hn3⟩ := textAt_some hneg
    have hxL : x ∈ L := by
     have := toList_inj hn3
     rw [← this]
     exact List.getElem_mem _
    have HSA : Hid (L = labSet (tauT :: ls.take (i + 1))) := by unfold Hid; rw [HST.out]; exact InOrd.same HL.out hxL
    obtain ⟨tx, htx⟩ : ∃ tx, tx = textAt L x := ⟨_, rfl⟩
    rw [← htx] at HFI hneg
    clear hL hbl ho hM hx htx hn1 hn2 hn3 hxL
    go_wp2_with fail
    refine Calls.mono HFI.out ?_
    rintro e w1 ⟨rfl, hb1⟩
    have HB1 := Lib.hid (HBL.out.trans (hb1.mono hsz))
    have HO1 := Lib.hid (owns_below HO.out hb1)
    clear hb1 c0 HC0
    go_wp2
    go_roundw
    case rel => exact ⟨i + 1, L, by go_num, by omega, HSA.out, by rw [← HM.out]; omega, HB1.out, by rw [← HM.out]; exact HO1.out⟩
    case measure => simp [intOf]; omega
  ·have hiN2 : i = N := by omega
   have HFI : Hid (L = labSet (tauT :: ls)) := by
    have h := HL.out
    rw [hiN2, HN.out, List.take_length] at h
    exact h
   clear hL hbl ho hM
   go_wp2
   go_ret
   exact ⟨_, rfl, HBL.out, by rw [← HFI.out, ← HM.out]; exact HO.out⟩

end Go.Proofs.YtpoleaekcjjedaaGreatDoor
