/-
  The reference's l11Join: the set of all labels.
  The reference's l11Make: a system out of texts and edges whose labels are places of the texts.
  The library's slices.SortFunc at any list of edges of the call's own.
  The reference's place of a number among numbers.
  Two facts on sets of labels and of edges. Plain.
  What the implementation's functions on lists of values and on labels compute.
  What the implementation's readNumbers computes.
  What the implementation's joined computes.
-/
import Derived.Test.YtifoinannefcpaaGreatDoorA6
import Derived.Test.YtifoinannefcpaaGreatDoorA5
import Derived.Test.YtifoinannefcpaaGreatDoorA1
import Derived.Sort.OwnSorted
namespace Go.Proofs.YtifoinannefcpaaGreatDoor
open Go Go.RowKit


theorem labSet_step (ls : List ByteArray) {i : Nat} (h : i < ls.length) : labSet (tauT :: ls.take (i + 1)) = labSet (tauT :: (ls.take i ++ [ls[i]])) := by rw [List.take_succ_eq_append_getElem h]

set_option maxRecDepth 100000 in
set_option maxHeartbeats 4000000 in
theorem l11Join_any (lo : Nat) (v : Value) (ls : List ByteArray) (w : World) (hv : SliceK 1 encS lo w v ls) (hn : ls.length ≤ 1000) :
  Calls Tryz.prog 59 #[v] w fun e w' => ∃ v', e = .returned v' ∧ Below w.heap.size w w' ∧ w'.ownsRow w.heap.size 9 1 v' (labSet (tauT :: ls)).length ((labSet (tauT :: ls)).map .string) := by
 obtain ⟨a, c, rfl, hc, hc2, hrow⟩ := hv
 have HR := Lib.hid hrow
 obtain ⟨N, hN⟩ : ∃ N, N = ls.length := ⟨_, rfl⟩
 rw [← hN] at hc hn ⊢
 have HN := Lib.hid hN
 obtain ⟨i0, hi, hz0, hz1, hz2⟩ := info_parts info_strJ
 obtain ⟨W, hW⟩ : ∃ W, W = w.alloc (.cells #[.string ⟨#[116, 97, 117]⟩] 9) := ⟨_, rfl⟩
 have HB0 : Hid (Below w.heap.size w W) := by unfold Hid; rw [hW]; exact (Below.refl _ _).alloc (Nat.le_refl _) _
 have HO0 : Hid (W.ownsRow w.heap.size 9 1 (.slice (some ⟨w.heap.size, 0, none⟩) 1 1) 1 ([tauT].map .string)) := by
  unfold Hid
  rw [hW]
  exact World.ownsRow_lit (base := w.heap.size) (e := 9) (size := 1) w #[.string ⟨#[116, 97, 117]⟩] 1 (Nat.le_refl _) (by decide) rfl
 have HW := Lib.hid hW
 clear hrow hN hW
 go_enter Tryz.func59, Tryz.ntmps59
 go_wp2
 rw [← HW.out]
 go_loopw [3, 4] (fun v3 v4 wr => ∃ (i : Nat) (L : List ByteArray), v4 = .int .i64 i ∧ i ≤ N ∧ L = labSet (tauT :: ls.take i) ∧ L.length ≤ i + 1 ∧ Below w.heap.size w wr ∧ wr.ownsRow w.heap.size 9 1 v3 L.length (L.map .string)) (fun _ v4 _ => N - (intOf v4).toNat)
 case atStart => exact ⟨0, [tauT], rfl, Nat.zero_le _, by rw [List.take_zero, tau_one], by simp, HB0.out, HO0.out⟩
 case round =>
  clear HB0 HO0
  obtain ⟨i, L, rfl, hiN, hL, hLl, hbl, ho⟩ := hrel
  obtain ⟨wC, rfl⟩ : ∃ wC : World, wC = wr := ⟨_, rfl⟩
  have HL := Lib.hid hL
  have HBL := Lib.hid hbl
  have HO := Lib.hid ho
  have hsz := hbl.size
  have HINO : Hid (InOrd L) := by unfold Hid; rw [hL]; exact InOrd.set _
  have hLpos := HINO.out.pos
  obtain ⟨oa, oc, rfl, -, -⟩ := owns_slice ho
  obtain ⟨M, hM⟩ : ∃ M, M = L.length := ⟨_, rfl⟩
  rw [← hM] at hLl hLpos ho HO ⊢
  have HM := Lib.hid hM
  by_cases hlt : i < N
  ·have hil : i < ls.length := by rw [← HN.out]; exact hlt
   obtain ⟨b, o, rfl, -, hbw0, c00⟩ := HR.out.one hil
   simp only [encS, List.getElem?_cons_zero] at c00
   obtain ⟨x, hx⟩ : ∃ x, x = ls[i] := ⟨_, rfl⟩
   rw [← hx] at c00
   have hbw : b < wC.heap.size := Nat.lt_of_lt_of_le hbw0 hsz
   have c0 := keeps hbl hbw0 c00
   have HCL : Hid (∀ w', Below w.heap.size w w' → w'.cell? ⟨b, o + i, none⟩ = some (.string x)) := fun w' hb => keeps hb hbw0 c00
   clear c00
   have HST : Hid (labSet (tauT :: ls.take (i + 1)) = labSet (tauT :: (ls.take i ++ [x]))) := by unfold Hid; rw [hx]; exact labSet_step ls hil
   have HFI := Lib.hid (l11Find_any w.heap.size (.slice oa M oc) L x wC (SliceK.of_owns (enc := encS) (e := 9) encS_len HM.out (by rw [flat_encS]; exact ho)))
   obtain ⟨og, hog, hogB, hogw⟩ : ∃ og, oa = some ⟨og, 0, none⟩ ∧ w.heap.size ≤ og ∧ og < wC.heap.size := by
    rcases ho.2 with ⟨h, h0⟩ | ⟨g, cap, cur, h, h1, hg, -⟩
    ·omega
    ·simp only [Value.slice.injEq, true_and] at h
     exact ⟨g, h.1, h1, (Array.getElem?_eq_some_iff.1 hg).1⟩
   subst hog
   have HC0 := Lib.hid c0
   by_cases hneg : textAt L x < 0
   ·have hno : ∀ y ∈ L, y.toList ≠ x.toList := by
     have h1 := textAt_neg.1 hneg
     rw [List.any_eq_false] at h1
     intro y hy e
     exact h1 y hy (by rw [e]; simp)
    have HNO := Lib.hid hno
    obtain ⟨tx, htx⟩ : ∃ tx, tx = textAt L x := ⟨_, rfl⟩
    rw [← htx] at HFI hneg
    clear hL hbl ho hM hx hno htx
    go_wp2_with fail
    refine Calls.mono HFI.out ?_
    rintro e w1 ⟨rfl, hb1⟩
    have HB1 := Lib.hid (HBL.out.trans (hb1.mono hsz))
    have HO1 := Lib.hid (owns_below HO.out hb1)
    have HC1 := Lib.hid (keeps hb1 hbw HC0.out)
    have hbw1 : b < w1.heap.size := Nat.lt_of_lt_of_le hbw hb1.size
    have hogw1 : og < w1.heap.size := Nat.lt_of_lt_of_le hogw hb1.size
    have hs1 : w.heap.size ≤ w1.heap.size := HB1.out.size
    clear hb1 c0 HC0
    go_wp2
    go_loopw [5] (fun v5 wr => ∃ k : Nat, v5 = .int .i64 k ∧ 1 ≤ k ∧ k ≤ M ∧ (∀ j (h : j < L.length), 1 ≤ j → j < k → strLess L[j] x = true) ∧ Below w1.heap.size w1 wr) (fun v5 _ => M - (intOf v5).toNat)
    case atStart => exact ⟨1, rfl, Nat.le_refl _, by omega, (fun j _ h1 h2 => by omega), Below.refl _ _⟩
    case round =>
     obtain ⟨k, rfl, hk1, hkM, hlo, hb2⟩ := hrel
     obtain ⟨w2, rfl⟩ : ∃ w2 : World, w2 = wr := ⟨_, rfl⟩
     have HLO := Lib.hid hlo
     have HB2 := Lib.hid hb2
     have HO2 := Lib.hid (owns_below HO1.out hb2)
     have c2 := keeps hb2 hbw1 HC1.out
     have hbw2 : b < w2.heap.size := Nat.lt_of_lt_of_le hbw1 hb2.size
     have hogw2 : og < w2.heap.size := Nat.lt_of_lt_of_le hogw1 hb2.size
     have hs2 : w.heap.size ≤ w2.heap.size := Nat.le_trans hs1 hb2.size
     have lc2 := later_cell hbw2 c2
     clear hlo hb2
     by_cases hgo : ∃ h : k < L.length, strLess L[k] x = true
     ·obtain ⟨hkL, hs⟩ := hgo
      have hkl : k < M := by rw [HM.out]; exact hkL
      have ck := HO2.out.cellAt k (by omega)
      rw [List.getElem?_map, List.getElem?_eq_getElem hkL, Option.map_some] at ck
      have HLS : Hid (∀ j (h : j < L.length), 1 ≤ j → j < k + 1 → strLess L[j] x = true) := fun j h h1 h2 => by
       by_cases e : j = k
       ·subst e; exact hs
       ·exact HLO.out j h h1 (by omega)
      obtain ⟨y, hy⟩ : ∃ y, y = L[k] := ⟨_, rfl⟩
      rw [← hy] at ck hs
      have lck := later_cell hogw2 ck
      unfold strLess at hs
      clear hy ck c2
      go_wp2
      refine wp_region_later (by kernel_rfl) (by kernel_rfl) ?_
      repeat (go_big_quiet_step ((fail)))
      refine wpQuiet_nil ?_
      intro _ hw9
      obtain ⟨nl, hw8⟩ := hw9
      subst hw8
      have HB3 := Lib.hid (HB2.out.trans (nl.h.mono HB2.out.size))
      clear lc2 lck
      go_wp2
      go_roundw
      case rel => exact ⟨k + 1, by go_num, by omega, by omega, HLS.out, HB3.out⟩
      case measure => simp [intOf]; omega
     ·have HHI : Hid (∀ h : k < L.length, strLess L[k] x = false) := fun h => by
       cases hs : strLess L[k] x with
       | false => rfl
       | true => exact absurd ⟨h, hs⟩ hgo
      have HPUT : Hid (L.take k ++ x :: L.drop k = labSet (tauT :: ls.take (i + 1))) := by unfold Hid; rw [HST.out]; exact InOrd.put HL.out HNO.out hk1 (by rw [← HM.out]; exact hkM) HLO.out HHI.out
      -- the walk from the search's end on, once
      have REST : ∀ (w3 : World), Below w2.heap.size w2 w3 → Below w.heap.size w w3 ∧ w3.ownsRow w.heap.size 9 1 (.slice (some ⟨og, 0, none⟩) M oc) M (L.map .string) ∧ w3.cell? ⟨b, o + i, none⟩ = some (.string x) := fun w3 hb3 => ⟨HB1.out.trans ((HB2.out.trans (hb3.mono HB2.out.size)).mono hs1), owns_below HO2.out hb3, keeps hb3 hbw2 c2⟩
      have HREST := Lib.hid REST
      clear REST hgo
      by_cases hkl : k < M
      ·have hkL : k < L.length := by rw [← HM.out]; exact hkl
       have ck := HO2.out.cellAt k (by omega)
       rw [List.getElem?_map, List.getElem?_eq_getElem hkL, Option.map_some] at ck
       have hs := HHI.out hkL
       obtain ⟨y, hy⟩ : ∃ y, y = L[k] := ⟨_, rfl⟩
       rw [← hy] at ck hs
       have lck := later_cell hogw2 ck
       unfold strLess at hs
       clear hy ck c2
       go_wp2
       refine wp_region_later (by kernel_rfl) (by kernel_rfl) ?_
       repeat (go_big_quiet_step ((fail)))
       refine wpQuiet_nil ?_
       intro _ hw9
       obtain ⟨nl, hw8⟩ := hw9
       subst hw8
       have H3 := HREST.out nl.w nl.h
       obtain ⟨w3, hw3⟩ : ∃ w3, w3 = nl.w := ⟨_, rfl⟩
       rw [← hw3] at H3 ⊢
       clear hw3 lck lc2 hs
       obtain ⟨HB3, HO3, c3⟩ := H3
       replace HB3 := Lib.hid HB3
       replace HO3 := Lib.hid HO3
       replace c3 := Lib.hid c3
       have hs3 := HB3.out.size
       have hbw3 : b < w3.heap.size := World.block_lt_of_cell? _ _ c3.out
       go_wp2_with (at_builtin; refine wpList_append_own _ rfl _ _ 24 rfl w.heap.size 9 i0 (.string ⟨#[]⟩) 1 16 Tryz.underlying24 hi hz0 hz1 hz2 rfl (by decide) _ M _ rfl (HO3.out.alloc _) ⟨w3.heap.size, 0, none⟩ 1 1 [.string ⟨#[]⟩] rfl rfl ?d1 ?d2 ?d3 ?d4 ?d5 ?_)
       case d1 => exact World.news_of_block (cs := #[.string ⟨#[]⟩]) (t := 9) (fr := (0, 0)) (heap_alloc_new _ _)
       case d2 => intro u hu; simp at hu; subst hu; rfl
       case d3 => simp [maxLen]; omega
       case d4 => omega
       case d5 => simp; omega
       intro v4 w4 ho4 hg4 _
       have HB4 : Hid (Below w.heap.size w w4) := (HB3.out.alloc hs3 _).grown hg4 (by simp; omega) (fun b e => (HO3.out.lt b e).1)
       have HO4 : Hid (w4.ownsRow w.heap.size 9 1 v4 (M + 1) ((shiftAt L ⟨#[]⟩ M).map .string)) := by
        unfold Hid
        rw [HM.out, ← shiftAt_end, List.map_append, ← HM.out]
        exact ho4
       obtain ⟨g4, cap4, rfl⟩ : ∃ g4 cap4, v4 = .slice (some ⟨g4, 0, none⟩) (M + 1) cap4 := by
        rcases HO4.out.2 with ⟨h, h0⟩ | ⟨g, cap, cur, h, -⟩
        ·omega
        ·exact ⟨g, cap, h⟩
       clear ho4 hg4 HB3 HO3 c3 hs3 hbw3
       go_wp2
       go_loopw [6] (fun v6 wr => ∃ (m : Nat) (junk : ByteArray), v6 = .int .i64 m ∧ k ≤ m ∧ m ≤ M ∧ Below w.heap.size w wr ∧ wr.ownsRow w.heap.size 9 1 (.slice (some ⟨g4, 0, none⟩) (M + 1) cap4) (M + 1) ((shiftAt L junk m).map .string)) (fun v6 _ => (intOf v6).toNat)
       case atStart => exact ⟨M, ⟨#[]⟩, by go_num, hkM, Nat.le_refl _, HB4.out, HO4.out⟩
       case round =>
        clear HB4 HO4
        obtain ⟨m, junk, rfl, hkm, hmM, hb5, ho5⟩ := hrel
        obtain ⟨w5, rfl⟩ : ∃ w5 : World, w5 = wr := ⟨_, rfl⟩
        have HB5 := Lib.hid hb5
        have HO5 := Lib.hid ho5
        have hs5 := hb5.size
        have hbw5 : b < w5.heap.size := Nat.lt_of_lt_of_le hbw0 hs5
        have hgB : w.heap.size ≤ g4 := (ho5.lt g4 rfl).1
        by_cases hmk : k < m
        ·have hm1 : 1 ≤ m := by omega
         have hmL : m ≤ L.length := by rw [← HM.out]; exact hmM
         have cg := ho5.cellAt (m - 1) (by omega)
         rw [List.getElem?_map, shiftAt_get hm1 hmL, Option.map_some] at cg
         obtain ⟨xc, ct⟩ := own_cell ho5 m (by omega)
         have f5 := ho5.frozenAt m
         have hst := ho5.stored m (.string (L[m - 1]'(by omega)))
         rw [← List.map_set, shiftAt_set hm1 hmL] at hst
         have HST := Lib.hid hst.1
         obtain ⟨y, hy⟩ : ∃ y, y = L[m - 1]'(by omega) := ⟨_, rfl⟩
         rw [← hy] at cg HST
         obtain ⟨p, rfl⟩ : ∃ p, m = p + 1 := ⟨m - 1, by omega⟩
         rw [Nat.add_sub_cancel] at cg HST
         have hpi : ((p + 1 : Nat) : Int) = (p : Int) + 1 := by omega
         rw [hpi]
         clear hst hb5 ho5 hy hpi
         go_wp2
         go_roundw
         case rel => exact ⟨p, y, by go_num, by omega, by omega, HB5.out.setCell hgB _, HST.out⟩
         case measure => (first | (simp [intOf]; done) | (simp [intOf]; omega))
        ·have hmk2 : m = k := by omega
         subst hmk2
         have ci := HCL.out w5 hb5
         obtain ⟨xc, ct⟩ := own_cell ho5 m (by omega)
         have f5 := ho5.frozenAt m
         have hst := (ho5.stored m (.string x)).1
         rw [← List.map_set, shiftAt_put (by rw [← HM.out]; exact hmM), HPUT.out] at hst
         have hle : (labSet (tauT :: ls.take (i + 1))).length = M + 1 := by
          have := hst.1
          rw [List.length_map] at this
          omega
         have HST := Lib.hid hst
         have HLE := Lib.hid hle
         clear hst hb5 ho5 hle
         go_wp2
         go_roundw
         case rel => exact ⟨i + 1, labSet (tauT :: ls.take (i + 1)), by go_num, by omega, rfl, by rw [HLE.out]; omega, HB5.out.setCell hgB _, by rw [HLE.out]; exact HST.out⟩
         case measure => simp [intOf]; omega
      ·have HKM : Hid (k = M) := by unfold Hid; omega
       clear c2
       go_wp2
       refine wp_region_later (by kernel_rfl) (by kernel_rfl) ?_
       repeat (go_big_quiet_step ((fail)))
       refine wpQuiet_nil ?_
       intro _ hw9
       obtain ⟨nl, hw8⟩ := hw9
       subst hw8
       have H3 := HREST.out nl.w nl.h
       obtain ⟨w3, hw3⟩ : ∃ w3, w3 = nl.w := ⟨_, rfl⟩
       rw [← hw3] at H3 ⊢
       clear hw3 lc2
       obtain ⟨HB3, HO3, c3⟩ := H3
       replace HB3 := Lib.hid HB3
       replace HO3 := Lib.hid HO3
       replace c3 := Lib.hid c3
       have hs3 := HB3.out.size
       have hbw3 : b < w3.heap.size := World.block_lt_of_cell? _ _ c3.out
       go_wp2_with (at_builtin; refine wpList_append_own _ rfl _ _ 24 rfl w.heap.size 9 i0 (.string ⟨#[]⟩) 1 16 Tryz.underlying24 hi hz0 hz1 hz2 rfl (by decide) _ M _ rfl (HO3.out.alloc _) ⟨w3.heap.size, 0, none⟩ 1 1 [.string ⟨#[]⟩] rfl rfl ?d1 ?d2 ?d3 ?d4 ?d5 ?_)
       case d1 => exact World.news_of_block (cs := #[.string ⟨#[]⟩]) (t := 9) (fr := (0, 0)) (heap_alloc_new _ _)
       case d2 => intro u hu; simp at hu; subst hu; rfl
       case d3 => simp [maxLen]; omega
       case d4 => omega
       case d5 => simp; omega
       intro v4 w4 ho4 hg4 _
       have HB4 : Hid (Below w.heap.size w w4) := (HB3.out.alloc hs3 _).grown hg4 (by simp; omega) (fun b e => (HO3.out.lt b e).1)
       have HO4 : Hid (w4.ownsRow w.heap.size 9 1 v4 (M + 1) ((shiftAt L ⟨#[]⟩ M).map .string)) := by
        unfold Hid
        rw [HM.out, ← shiftAt_end, List.map_append, ← HM.out]
        exact ho4
       obtain ⟨g4, cap4, rfl⟩ : ∃ g4 cap4, v4 = .slice (some ⟨g4, 0, none⟩) (M + 1) cap4 := by
        rcases HO4.out.2 with ⟨h, h0⟩ | ⟨g, cap, cur, h, -⟩
        ·omega
        ·exact ⟨g, cap, h⟩
       clear ho4 hg4 HB3 HO3 c3 hs3 hbw3
       go_wp2
       go_loopw [6] (fun v6 wr => ∃ (m : Nat) (junk : ByteArray), v6 = .int .i64 m ∧ k ≤ m ∧ m ≤ M ∧ Below w.heap.size w wr ∧ wr.ownsRow w.heap.size 9 1 (.slice (some ⟨g4, 0, none⟩) (M + 1) cap4) (M + 1) ((shiftAt L junk m).map .string)) (fun v6 _ => (intOf v6).toNat)
       case atStart => exact ⟨M, ⟨#[]⟩, by go_num, hkM, Nat.le_refl _, HB4.out, HO4.out⟩
       case round =>
        clear HB4 HO4
        obtain ⟨m, junk, rfl, hkm, hmM, hb5, ho5⟩ := hrel
        obtain ⟨w5, rfl⟩ : ∃ w5 : World, w5 = wr := ⟨_, rfl⟩
        have HB5 := Lib.hid hb5
        have HO5 := Lib.hid ho5
        have hs5 := hb5.size
        have hbw5 : b < w5.heap.size := Nat.lt_of_lt_of_le hbw0 hs5
        have hgB : w.heap.size ≤ g4 := (ho5.lt g4 rfl).1
        by_cases hmk : k < m
        ·exfalso; have := HKM.out; omega
        ·have hmk2 : m = k := by omega
         subst hmk2
         have ci := HCL.out w5 hb5
         obtain ⟨xc, ct⟩ := own_cell ho5 m (by omega)
         have f5 := ho5.frozenAt m
         have hst := (ho5.stored m (.string x)).1
         rw [← List.map_set, shiftAt_put (by rw [← HM.out]; exact hmM), HPUT.out] at hst
         have hle : (labSet (tauT :: ls.take (i + 1))).length = M + 1 := by
          have := hst.1
          rw [List.length_map] at this
          omega
         have HST := Lib.hid hst
         have HLE := Lib.hid hle
         clear hst hb5 ho5 hle
         go_wp2
         go_roundw
         case rel => exact ⟨i + 1, labSet (tauT :: ls.take (i + 1)), by go_num, by omega, rfl, by rw [HLE.out]; omega, HB5.out.setCell hgB _, by rw [HLE.out]; exact HST.out⟩
         case measure => simp [intOf]; omega
   ·obtain ⟨n, hn1, hn2, hn3⟩ := textAt_some hneg
    have hxL : x ∈ L := by
     have := toList_inj hn3
     rw [← this]
     exact List.getElem_mem _
    have HSA : Hid (L = labSet (tauT :: ls.take (i + 1))) := by unfold Hid; rw [HST.out]; exact InOrd.same HL.out hxL
    obtain ⟨tx, htx⟩ : ∃ tx, tx = textAt L x := ⟨_, rfl⟩
    rw [← htx] at HFI hneg
    clear hL hbl ho hM hx htx hn1 hn2 hn3 hxL
    go_wp2_with fail
    refine Calls.mono HFI.out ?_
    rintro e w1 ⟨rfl, hb1⟩
    have HB1 := Lib.hid (HBL.out.trans (hb1.mono hsz))
    have HO1 := Lib.hid (owns_below HO.out hb1)
    clear hb1 c0 HC0
    go_wp2
    go_roundw
    case rel => exact ⟨i + 1, L, by go_num, by omega, HSA.out, by rw [← HM.out]; omega, HB1.out, by rw [← HM.out]; exact HO1.out⟩
    case measure => simp [intOf]; omega
  ·have hiN2 : i = N := by omega
   have HFI : Hid (L = labSet (tauT :: ls)) := by
    have h := HL.out
    rw [hiN2, HN.out, List.take_length] at h
    exact h
   clear hL hbl ho hM
   go_wp2
   go_ret
   exact ⟨_, rfl, HBL.out, by rw [← HFI.out, ← HM.out]; exact HO.out⟩

end Go.Proofs.YtifoinannefcpaaGreatDoor

namespace Go.Proofs.YtifoinannefcpaaGreatDoor
open Go Go.RowKit


/-- An edge whose label is a place of the texts, as an edge of the system with the labels L. -/
def makeE (L texts : List ByteArray) (e : Edge) : Edge := ⟨e.src, textAt L (texts.getD e.lab.toNat ByteArray.empty), e.dst⟩
/-- The edges laid so far. -/
def MkEdges (L texts : List ByteArray) (es R : List Edge) : Prop := RiseE R ∧ R.length ≤ es.length ∧ ∀ x, x ∈ R ↔ x ∈ es.map (makeE L texts)
theorem MkEdges.nil (L texts : List ByteArray) : MkEdges L texts [] [] := ⟨List.Pairwise.nil, Nat.le_refl _, fun _ => Iff.rfl⟩
theorem MkEdges.put {L texts : List ByteArray} {es R R2 : List Edge} {k : Nat} (h : MkEdges L texts (es.take k) R) (hk : k < es.length) (hp : PutIs R (makeE L texts es[k]) R2) : MkEdges L texts (es.take (k + 1)) R2 := by
 obtain ⟨h1, h2, h3⟩ := h
 obtain ⟨p1, p2, p3⟩ := hp
 refine ⟨p1, ?_, fun x => ?_⟩
 ·rw [List.length_take] at h2 ⊢; omega
 ·rw [p3, h3, List.take_succ_eq_append_getElem hk, List.map_append, List.mem_append, List.map_singleton, List.mem_singleton]
theorem lmake_results {w : World} {b : Nat} {v0 v1 v2 v3 : Value} {tmps : Array Value} (hc : tmps.getD 8 undef = .pointer (some ⟨b, 0, none⟩)) (hb : Blk w b [v0, v1, v2, v3] 27) :
  (results Tryz.f33 tmps).run Tryz.prog w = .ok (.agg #[v0, v1, v2, v3]) w := by
 have h0 := hb.cell 0 rfl
 have h1 := hb.cell 1 rfl
 have h2 := hb.cell 2 rfl
 have h3 := hb.cell 3 rfl
 simp only [Array.getD_eq_getD_getElem?] at hc
 simp [results, Tryz.results33, go_sem, hc, h0, h1, h2, h3, Result.andThen]
theorem blk_kept {w w' : World} {b : Nat} {cs : List Value} {t : TypeId} (h : Blk w b cs t) {base e size n : Nat} {v : Value} {xs : List Value} (ho : w.ownsRow base e size v n xs) (hg : w.grownBy w' v.ownBlock) (he : e ≠ t) : Blk w' b cs t :=
 (hg.block b h.lt (blk_own_neL h ho he)).trans h
/-- What l11Make returns. -/
def RetMk (n i : Int) (texts : List ByteArray) (es : List Edge) (w : World) (e : Ending) (w' : World) : Prop :=
 Below w.heap.size w w' ∧ ∃ (lv ev : Value) (R : List Edge), e = .returned (.agg #[.int .i64 n, .int .i64 i, lv, ev]) ∧ OwnStrs w.heap.size w' lv (labSet (tauT :: texts)) ∧ w'.ownsRow w.heap.size 62 3 ev R.length (R.flatMap encE) ∧ MkEdges (labSet (tauT :: texts)) texts es R

set_option maxRecDepth 100000 in
set_option maxHeartbeats 4000000 in
theorem l11Make_any (lo lo2 : Nat) (n i : Int) (texts : List ByteArray) (es : List Edge) (tv ev : Value) (w : World) (ht : SliceK 1 encS lo w tv texts) (he : SliceK 3 encE lo2 w ev es) (htn : texts.length ≤ 900) (hen : es.length ≤ 900) (hlab : ∀ e ∈ es, 0 ≤ e.lab ∧ e.lab < texts.length) :
  Calls Tryz.prog 33 #[.int .i64 n, .int .i64 i, tv, ev] w (RetMk n i texts es w) := by
 obtain ⟨rb, hrb⟩ : ∃ rb, rb = w.heap.size := ⟨_, rfl⟩
 obtain ⟨wA, hwA⟩ : ∃ wA, wA = w.alloc (.cells #[.int .i64 0, .int .i64 0, .slice none 0 0, .slice none 0 0] 27) := ⟨_, rfl⟩
 have hbA : Below w.heap.size w wA := by rw [hwA]; exact (Below.refl _ _).alloc (Nat.le_refl _) _
 have hRB : Blk wA rb [.int .i64 0, .int .i64 0, .slice none 0 0, .slice none 0 0] 27 := by rw [hwA, hrb]; exact Blk.new w _ _
 have HJ := Lib.hid (l11Join_any lo tv texts wA (ht.below hbA) (by omega))
 have HT := Lib.hid (ht.below hbA)
 have HE := Lib.hid (he.below hbA)
 have HLAB := Lib.hid hlab
 obtain ⟨ta, tc, rfl, -, -, htrow⟩ := ht.below hbA
 obtain ⟨ea, ec, rfl, -, -, herow⟩ := he.below hbA
 have HTR := Lib.hid htrow
 have HER := Lib.hid herow
 obtain ⟨TN, hTN⟩ : ∃ TN, TN = texts.length := ⟨_, rfl⟩
 obtain ⟨EN, hEN⟩ : ∃ EN, EN = es.length := ⟨_, rfl⟩
 rw [← hTN] at htn HJ HT ⊢
 rw [← hEN] at hen HE ⊢
 have HTN := Lib.hid hTN
 have HEN := Lib.hid hEN
 have HRB := Lib.hid hRB
 have HBA := Lib.hid hbA
 have HWA := Lib.hid hwA
 have HRBB := Lib.hid hrb
 clear ht he hbA hRB hwA hrb htrow herow hTN hEN hlab
 go_enter Tryz.func33, Tryz.ntmps33
 go_wp2_with fail
 rw [← HWA.out]
 try rw [← HRBB.out]
 refine Calls.mono HJ.out ?_
 rintro e w1 ⟨lv, rfl, hb1, ho1⟩
 obtain ⟨L, hL⟩ : ∃ L, L = labSet (tauT :: texts) := ⟨_, rfl⟩
 rw [← hL] at ho1
 obtain ⟨la, lc, rfl, -, -⟩ := owns_slice ho1
 obtain ⟨LN, hLN⟩ : ∃ LN, LN = L.length := ⟨_, rfl⟩
 rw [← hLN] at ho1 ⊢
 obtain ⟨ob, hob⟩ : ∃ ob, ob = w1.heap.size + 1 := ⟨_, rfl⟩
 obtain ⟨W2, hW2⟩ : ∃ W2, W2 = (w1.alloc (.cells #[] 62)).alloc (.cells #[.int .i64 n, .int .i64 i, .slice la LN lc, .slice (some ⟨w1.heap.size, 0, none⟩) 0 0] 27) := ⟨_, rfl⟩
 have hb2 : Below w1.heap.size w1 W2 := by rw [hW2]; exact ((Below.refl _ _).alloc (Nat.le_refl _) _).alloc (by simp) _
 have hOB : Blk W2 ob [.int .i64 n, .int .i64 i, .slice la LN lc, .slice (some ⟨w1.heap.size, 0, none⟩) 0 0] 27 := by
  have h := Blk.new (w1.alloc (.cells #[] 62)) [.int .i64 n, .int .i64 i, .slice la LN lc, .slice (some ⟨w1.heap.size, 0, none⟩) 0 0] 27
  rw [World.size_alloc, ← hob] at h
  rw [hW2]
  exact h
 have hE0 : W2.ownsRow w1.heap.size 62 3 (.slice (some ⟨w1.heap.size, 0, none⟩) 0 0) 0 [] := by
  rw [hW2]
  exact (World.ownsRow_lit (base := w1.heap.size) (e := 62) (size := 3) w1 #[] 0 (Nat.le_refl _) (by decide) rfl).alloc _
 have HOB := Lib.hid hOB
 have HE0 := Lib.hid hE0
 have HB2 : Hid (Below wA.heap.size wA W2) := hb1.trans (hb2.mono hb1.size)
 have HOL : Hid (OwnStrs wA.heap.size W2 (.slice la LN lc) L) := by
  unfold Hid OwnStrs
  rw [← hLN]
  exact owns_below ho1 hb2
 have HW2 := Lib.hid hW2
 have HOBB := Lib.hid hob
 have hs1 : wA.heap.size ≤ w1.heap.size := hb1.size
 have HL := Lib.hid hL
 have HLN := Lib.hid hLN
 obtain ⟨B, hB⟩ : ∃ B, B = w1.heap.size := ⟨_, rfl⟩
 rw [← hB] at HOB HE0 HOBB hs1 hob
 have HOBN : Hid (ob = B + 1) := hob
 have HB := Lib.hid hB
 have HRB2 : Hid (Blk W2 rb [.int .i64 0, .int .i64 0, .slice none 0 0, .slice none 0 0] 27) := HRB.out.below HB2.out
 have hrbA : rb < wA.heap.size := HRB.out.lt
 clear hb1 ho1 hb2 hOB hE0 hW2 hL hLN hob HJ hB
 go_wp2
 rw [← HB.out]
 try rw [← HOBB.out]
 try rw [← HB.out] at HW2
 try rw [← HW2.out]
 go_loopw [10] (fun v10 wr => ∃ (k : Nat) (R : List Edge) (ra : Option Addr) (rc : Nat), k ≤ EN ∧ v10 = .int .i64 k ∧ Below wA.heap.size wA wr ∧ Blk wr ob [.int .i64 n, .int .i64 i, .slice la LN lc, .slice ra R.length rc] 27 ∧ Blk wr rb [.int .i64 0, .int .i64 0, .slice none 0 0, .slice none 0 0] 27 ∧ OwnStrs wA.heap.size wr (.slice la LN lc) L ∧ wr.ownsRow B 62 3 (.slice ra R.length rc) R.length (R.flatMap encE) ∧ MkEdges L texts (es.take k) R ∧ W2.heap.size ≤ wr.heap.size) (fun v10 _ => EN - (intOf v10).toNat)
 case atStart => exact ⟨0, [], _, _, Nat.zero_le _, rfl, HB2.out, HOB.out, HRB2.out, HOL.out, HE0.out, MkEdges.nil _ _, Nat.le_refl _⟩
 case round =>
  obtain ⟨k, R, ra, rc, hk, rfl, hbl, hob9, hrb9, hol9, hre, hmk, hsW⟩ := hrel
  obtain ⟨wC, rfl⟩ : ∃ wC : World, wC = wr := ⟨_, rfl⟩
  have HBL := Lib.hid hbl
  have HO9 := Lib.hid hob9
  have HR9 := Lib.hid hrb9
  have HL9 := Lib.hid hol9
  have HE9 := Lib.hid hre
  have HMK := Lib.hid hmk
  have hszC := hbl.size
  have hRl : R.length ≤ 900 := by have := hmk.2.1; rw [List.length_take] at this; have := HEN.out; omega
  obtain ⟨RN, hRN⟩ : ∃ RN, RN = R.length := ⟨_, rfl⟩
  rw [← hRN] at HO9 HE9 hRl
  have HRN := Lib.hid hRN
  by_cases hlt : k < EN
  ·have hlt2 : k < es.length := by rw [← HEN.out]; exact hlt
   obtain ⟨be, oe, rfl, -, hbe, e1, e2, e3⟩ := (HER.out.below hbl).edge hlt2
   obtain ⟨x, hx⟩ : ∃ x, x = es[k] := ⟨_, rfl⟩
   have hxl := HLAB.out x (by rw [hx]; exact List.getElem_mem _)
   rw [← hx] at e1 e2 e3
   obtain ⟨m, hm⟩ : ∃ m : Nat, (m : Int) = x.lab := ⟨x.lab.toNat, by omega⟩
   have hmT : m < texts.length := by omega
   have hmT2 : m < TN := by have := HTN.out; omega
   obtain ⟨bt, ot, rfl, -, hbt, ct⟩ := (HTR.out.below hbl).one hmT
   simp only [encS, List.getElem?_cons_zero] at ct
   have hmk2 : makeE L texts x = ⟨x.src, textAt L texts[m], x.dst⟩ := by
    unfold makeE
    rw [← hm, Int.toNat_natCast, List.getD_eq_getElem?_getD, List.getElem?_eq_getElem hmT]
    rfl
   obtain ⟨l, hl⟩ : ∃ l, l = texts[m] := ⟨_, rfl⟩
   rw [← hl] at ct hmk2
   obtain ⟨tx, htx⟩ : ∃ tx, tx = textAt L l := ⟨_, rfl⟩
   rw [← htx] at hmk2
   obtain ⟨xs, hxs⟩ : ∃ xs, xs = x.src := ⟨_, rfl⟩
   obtain ⟨xd, hxd⟩ : ∃ xd, xd = x.dst := ⟨_, rfl⟩
   rw [← hxs] at e1 hmk2
   rw [← hxd] at e3 hmk2
   rw [← hm] at e2
   -- the edge's box
   obtain ⟨wD, hwD⟩ : ∃ wD, wD = wC.alloc (.cells #[.int .i64 xs, .int .i64 m, .int .i64 xd] 62) := ⟨_, rfl⟩
   obtain ⟨xb, hxb⟩ : ∃ xb, xb = wC.heap.size := ⟨_, rfl⟩
   have hbD : Below wC.heap.size wC wD := by rw [hwD]; exact (Below.refl _ _).alloc (Nat.le_refl _) _
   have hXD : Blk wD xb [.int .i64 xs, .int .i64 m, .int .i64 xd] 62 := by rw [hwD, hxb]; exact Blk.new wC _ _
   have hODD := hob9.below hbD
   rw [← hRN] at hODD
   have HXD := Lib.hid hXD
   have HOD := Lib.hid hODD
   have HFI : Hid (∀ g : Later wD, Calls Tryz.prog 60 #[.slice la LN lc, .string l] g.w fun e w' => e = .returned (.int .i64 tx) ∧ Below g.w.heap.size g.w w') := fun g => by
    rw [htx]
    have h := HL9.out.below (hbD.trans (g.h.mono hbD.size))
    unfold OwnStrs at h
    rw [← HLN.out] at h
    exact l11Find_any wA.heap.size _ L l g.w (SliceK.of_owns (e := 9) encS_len HLN.out (by rw [flat_encS]; exact h))
   have lo2' := later_cell hODD.lt (hODD.cell 2 rfl)
   have lx1 := later_cell hXD.lt (hXD.cell 1 rfl)
   have hbtD : bt < wD.heap.size := Nat.lt_of_lt_of_le hbt hbD.size
   have lct := later_cell hbtD (keeps hbD hbt ct)
   have HBD := Lib.hid hbD
   have HWD := Lib.hid hwD
   have HXB := Lib.hid hxb
   have HMK2 := Lib.hid hmk2
   have hmi : (m : Int) < (TN : Int) := by omega
   have HX := Lib.hid hx
   clear hbl hob9 hrb9 hol9 hre hmk hRN hx hxl hm hmT hl htx hxs hxd hbD hXD hODD hwD hxb hmk2 ct hbtD
   go_wp2
   rw [← HWD.out]
   try rw [← HXB.out]
   refine wp_region_later_tail 9 (by kernel_rfl) (by kernel_rfl) ?_
   simp only [List.take_succ_cons, List.take_zero, List.drop_succ_cons, List.drop_zero]
   repeat (go_big_quiet_step ((go_at_call 60; exact later_call (HFI.out _))))
   refine wpQuiet_nil ?_
   intro _ hw9
   obtain ⟨nl, hw8⟩ := hw9
   subst hw8
   obtain ⟨wE, hwE⟩ : ∃ wE, wE = nl.w := ⟨_, rfl⟩
   have hbE : Below wD.heap.size wD wE := by rw [hwE]; exact nl.h
   have hXE := HXD.out.below hbE
   have hxz := hXE.frozen 1
   have hxc := hXE.cell 1 rfl
   have hxlE := hXE.lt
   have HXE : Hid (Blk (wE.setCell ⟨xb, 1, none⟩ (.int .i64 tx)) xb [.int .i64 xs, .int .i64 tx, .int .i64 xd] 62) := hXE.set 1 _
   have hbCE : Below wC.heap.size wC wE := HBD.out.trans (hbE.mono HBD.out.size)
   have HBF : Hid (Below wC.heap.size wC (wE.setCell ⟨xb, 1, none⟩ (.int .i64 tx))) := hbCE.setCell (by rw [HXB.out]; exact Nat.le_refl _) _
   rw [← hwE]
   clear lo2' lx1 lct hwE hbE hXE hbCE
   clear nl
   obtain ⟨wF, hwF⟩ : ∃ wF, wF = wE.setCell ⟨xb, 1, none⟩ (.int .i64 tx) := ⟨_, rfl⟩
   rw [← hwF] at HXE HBF
   have HWF := Lib.hid hwF
   have hbF := HBF.out
   have o3 := (HO9.out.below hbF).cell 3 rfl
   have f1 := HXE.out.cell 0 rfl
   have f2 := HXE.out.cell 1 rfl
   have f3 := HXE.out.cell 2 rfl
   have hobl := (HO9.out.below hbF).lt
   have hxbl := HXE.out.lt
   have HEF := Lib.hid (owns_below HE9.out hbF)
   have HPU := Lib.hid (l11Put_any B (.slice ra RN rc) R ⟨xs, tx, xd⟩ wF (by rw [← HRN.out]; exact HEF.out) HMK.out.1 (by have := hbF.size; have := hsW; have := HOB.out.lt; have := HOBN.out; omega) (by rw [← HRN.out]; omega))
   rw [hwF] at o3 f1 f2 f3 hobl hxbl
   clear hwF hbF
   go_wp2_with fail
   rw [← HWF.out]
   refine Calls.mono HPU.out ?_
   rintro e9 w8 ⟨v8, R8, rfl, hg8, ho8, hp8⟩
   obtain ⟨ra8, rc8, rfl, -, -⟩ := owns_slice ho8
   have hX8 : Blk w8 ob _ 27 := blk_kept (HO9.out.below HBF.out) HEF.out hg8 (by decide)
   have hr8 : Blk w8 rb _ 27 := blk_kept (HR9.out.below HBF.out) HEF.out hg8 (by decide)
   have hl8 : OwnStrs wA.heap.size w8 (.slice la LN lc) L := World.ownsRow.kept (HL9.out.below HBF.out) hg8 (own_types (HL9.out.below HBF.out) HEF.out (by decide))
   have hbAF : Below wA.heap.size wA wF := HBL.out.trans (HBF.out.mono hszC)
   have hsAF := hbAF.size
   have hbA8 : Below wA.heap.size wA w8 := hbAF.grown hg8 hsAF (fun b e => by have := (HEF.out.lt b e).1; omega)
   have hs8 : W2.heap.size ≤ w8.heap.size := by have := HBF.out.size; have := hg8.size; omega
   have HX8 := Lib.hid hX8
   have HR8 := Lib.hid hr8
   have HL8 := Lib.hid hl8
   have HE8 := Lib.hid ho8
   have HB8 := Lib.hid hbA8
   have HMK8 : Hid (MkEdges L texts (es.take (k + 1)) R8) := HMK.out.put hlt2 (by rw [← HX.out, HMK2.out]; exact hp8)
   have c3 := hX8.cell 3 rfl
   have z3 := hX8.frozen 3
   have hol8 := hX8.lt
   have hAB : wA.heap.size ≤ ob := by have := HOBN.out; omega
   have hnr : rb ≠ ob := by have := HOBN.out; omega
   clear hg8 ho8 hp8 hX8 hr8 hl8 hbAF hbA8 o3 f1 f2 f3 hobl hxbl HPU hxz hxc hxlE
   go_wp2
   go_roundw
   case rel => exact ⟨k + 1, R8, ra8, rc8, by omega, by go_num, HB8.out.setCell hAB _, HX8.out.set 3 _, HR8.out.setOther _ _ hnr, own_sets HL8.out HX8.out (by decide) 3 _, own_sets HE8.out HX8.out (by decide) 3 _, HMK8.out, by simpa using hs8⟩
   case measure => simp [intOf]; omega
  ·have hkE : k = EN := by omega
   have HMF : Hid (MkEdges L texts es R) := by
    have h := HMK.out
    rw [hkE, HEN.out, List.take_length] at h
    exact h
   have o0 := HO9.out.cell 0 rfl
   have o1 := HO9.out.cell 1 rfl
   have o2 := HO9.out.cell 2 rfl
   have o3 := HO9.out.cell 3 rfl
   have r0 := HR9.out.cell 0 rfl
   have r1 := HR9.out.cell 1 rfl
   have r2 := HR9.out.cell 2 rfl
   have r3 := HR9.out.cell 3 rfl
   have s0 := HR9.out.frozen 0
   have s1 := HR9.out.frozen 1
   have s2 := HR9.out.frozen 2
   have s3 := HR9.out.frozen 3
   have hobl := HO9.out.lt
   have hrbl := HR9.out.lt
   clear hbl hob9 hrb9 hol9 hre hmk hkE hRN
   go_wp2
   have hR1 := HR9.out.set 0 (.int .i64 n)
   have hR2 := hR1.set 1 (.int .i64 i)
   have hR3 := hR2.set 2 (.slice la LN lc)
   have hle : w.heap.size ≤ rb := by rw [HRBB.out]; exact Nat.le_refl _
   refine bodyPost_ret (lmake_results rfl (hR3.set 3 (.slice ra RN rc))) rfl ?_
   refine ⟨((((HBA.out.trans (HBL.out.mono HBA.out.size)).setCell hle _).setCell hle _).setCell hle _).setCell hle _, _, _, R, rfl, ?_, ?_, by rw [← HL.out]; exact HMF.out⟩
   ·rw [← HL.out]
    have h1 := HL9.out
    exact OwnStrs.lower (own_sets (own_sets (own_sets (own_sets h1 HR9.out (by decide) 0 _) hR1 (by decide) 1 _) hR2 (by decide) 2 _) hR3 (by decide) 3 _) HBA.out.size
   ·rw [← HRN.out]
    have h1 := HE9.out
    exact own_lower (own_sets (own_sets (own_sets (own_sets h1 HR9.out (by decide) 0 _) hR1 (by decide) 1 _) hR2 (by decide) 2 _) hR3 (by decide) 3 _) (by have := HBA.out.size; omega)

end Go.Proofs.YtifoinannefcpaaGreatDoor

namespace Go.Proofs.YtifoinannefcpaaGreatDoor
open Go Go.RowKit Go.Sort


def sortEs (es : List Edge) : List Edge := es.mergeSort fun x y => !edgeLess y x
theorem sortEs_len (es : List Edge) : (sortEs es).length = es.length := by unfold sortEs; exact List.length_mergeSort _
theorem flatK_edges (E : List Edge) : (flatK encE 3 E.toArray).toList = E.flatMap encE := by
 apply List.ext_getElem?
 intro t
 by_cases h : t < E.length * 3
 ·have hs : t < (flatK encE 3 E.toArray).size := by simpa using h
  have hq : t / 3 < E.length := by omega
  obtain ⟨a, b, c⟩ := flat_get E (t / 3) hq
  have h1 := get_flatK encE 3 E.toArray t (by simpa using h)
  rw [getElem!_pos _ t hs] at h1
  rw [Array.getElem?_toList, Array.getElem?_eq_getElem hs, h1]
  have hq2 : E.toArray[t / 3]! = E[t / 3] := by rw [getElem!_pos E.toArray (t / 3) (by simpa using hq)]; simp
  rw [hq2]
  have h3 : t % 3 = 0 ∨ t % 3 = 1 ∨ t % 3 = 2 := by omega
  rcases h3 with h3 | h3 | h3
  ·rw [h3]
   rw [show t / 3 * 3 = t from by omega] at a
   rw [a]
   rfl
  ·rw [h3]
   rw [show t / 3 * 3 + 1 = t from by omega] at b
   rw [b]
   rfl
  ·rw [h3]
   rw [show t / 3 * 3 + 2 = t from by omega] at c
   rw [c]
   rfl
 ·rw [List.getElem?_eq_none (by rw [Array.length_toList]; simp; omega), List.getElem?_eq_none (by rw [flat_len]; omega)]
theorem heap_sortedG {w : World} {g n : Nat} {os : Array Obj} {cur : Array Value} {e : TypeId} {fr : Nat × Nat} (d : Array Value) (hb : w.heap[g]? = some (.cells cur e fr)) :
  (grow (putRow id (Sort.ahead w n) g 0 d) os).heap[g]? = some (.cells (putCells id 0 d cur) e fr) := by
 have hg : g < w.heap.size := (Array.getElem?_eq_some_iff.1 hb).1
 rw [heap_grow_old _ _ (by simpa using hg)]
 simp [putRow, mapBlock, Sort.ahead, Array.getElem?_modify, hb, onCells]
theorem grownBy_sortedG {w : World} {g n : Nat} {os : Array Obj} (d : Array Value) : w.grownBy (grow (putRow id (Sort.ahead w n) g 0 d) os) (some g) := by
 refine ⟨rfl, rfl, rfl, by simp, fun k hk hne => ?_⟩
 rw [heap_grow_old _ _ (by simpa using hk)]
 have : g ≠ k := fun e => hne (by rw [e])
 simp [putRow, mapBlock, Sort.ahead, Array.getElem?_modify, this]
theorem take_putCellsG (cur : Array Value) (d : Array Value) (h : d.size ≤ cur.size) : (putCells id 0 d cur).toList.take d.size = d.toList := by
 apply List.ext_getElem?
 intro j
 by_cases hj : j < d.size
 ·rw [List.getElem?_take_of_lt hj, Array.getElem?_toList, Array.getElem?_toList]
  simp [putCells, hj, show j < cur.size by omega]
 ·rw [List.getElem?_take_eq_none (by omega), List.getElem?_eq_none (by simp; omega)]

theorem SortEs_own (base : Nat) (v : Value) (es : List Edge) (w : World) (ho : w.ownsRow base 62 3 v es.length (es.flatMap encE)) (hz : es.length ≤ 1048576) :
  Calls Tryz.prog 47 #[v, .func (.func 43) #[] #[]] w fun e w' => e = .returned (.tuple #[]) ∧ w'.ownsRow base 62 3 v es.length ((sortEs es).flatMap encE) ∧ w.grownBy w' v.ownBlock := by
 rcases ho.2 with ⟨rfl, h0⟩ | ⟨g, cap, cur, rfl, hb, hg, hn, hm, hs, ht⟩
 ·have hx : es = [] := List.eq_nil_of_length_eq_zero h0
  subst hx
  refine Calls.mono (R := fun e w' => e = .returned (.tuple #[]) ∧ w' = w) (Tryz.slices_SortFunc_edges_none (α := Edge) none 0 _ w) ?_
  rintro e w' ⟨rfl, rfl⟩
  exact ⟨rfl, by simpa [sortEs] using ho, grown_refl _ _⟩
 ·have hH := holdsE_of_own ho rfl
  have hz2 : es.toArray.size = es.length := by simp
  have hc := Tryz.slices_SortFunc_edges (α := Edge) 3 isAggE sizeOfE encE encE_len (fun x v hv => by simp [encE] at hv; rcases hv with rfl | rfl | rfl <;> rfl) cmpE swoE 43 #[] g 0 cap es.toArray w enters_cmpE
   (fun m os dk _ x y => (compareEdges_more x y _).mono fun e w' ⟨h1, h2, h3⟩ => ⟨h1, grow_of_below h2 h3⟩) hH (Array.getElem?_eq_some_iff.1 hg).1 (by rw [hz2]; omega) (by rw [ltOf_cmpE]; exact edgeLess_tri)
  rw [hz2, ltOf_cmpE] at hc
  refine hc.mono ?_
  rintro e w' ⟨rfl, n, os, rfl⟩
  have hF := flatK_edges (sortEs es)
  have hFs : (flatK encE 3 (sortEs es).toArray).size = es.length * 3 := by rw [size_flatK]; simp [sortEs_len]
  refine ⟨rfl, ⟨by rw [flat_len, sortEs_len], .inr ⟨g, cap, _, rfl, hb, heap_sortedG (flatK encE 3 (sortEs es).toArray) hg, hn, hm, by simp [putCells, hs], ?_⟩⟩, grownBy_sortedG _⟩
  rw [← hFs, take_putCellsG _ _ (by rw [hFs, hs]; omega), hF]

end Go.Proofs.YtifoinannefcpaaGreatDoor

namespace Go.Proofs.YtifoinannefcpaaGreatDoor
open Go Go.RowKit


/-- The numbers below n. -/
def upI (n : Nat) : List Int := (List.range n).map fun (j : Nat) => (j : Int)
theorem upI_len (n : Nat) : (upI n).length = n := by simp [upI]
theorem upI_get {n j : Nat} (h : j < n) : (upI n)[j]? = some (j : Int) := by simp [upI, h]
theorem upI_succ (n : Nat) : upI (n + 1) = upI n ++ [(n : Int)] := by simp [upI, List.range_succ]
end Go.Proofs.YtifoinannefcpaaGreatDoor

namespace Go.Proofs.YtifoinannefcpaaGreatDoor
open Go Go.RowKit


theorem sus_text {L : List ByteArray} {l : ByteArray} (h : l ∈ L) : textAt L l = (idxL L l : Nat) := by
 obtain ⟨hk, -, -⟩ := idxL_get h
 unfold textAt
 unfold idxL at hk ⊢
 rw [if_pos hk]
theorem rise_same {a b : List Edge} (ha : RiseE a) (hb : RiseE b) (h : ∀ x, x ∈ a ↔ x ∈ b) : a = b :=
 rise_unique (fun x y => edgeLess x y = true) (fun a h => by rw [edgeLess_irrefl] at h; cases h) (fun a b h k => by have := edgeLess_trans a b a h k; rw [edgeLess_irrefl] at this; cases this) a b ha hb h

end Go.Proofs.YtifoinannefcpaaGreatDoor

namespace Go.Proofs.YtifoinannefcpaaGreatDoor
open Go Go.RowKit

def isVal (n : Int) : Bool := decide (0 ≤ n) && decide (n ≤ 63)

theorem areValues1_any (n : Int) (w : World) : Calls Tryz.prog 133 #[.int .i64 n] w fun e w' => e = .returned (.bool (!isVal n)) ∧ w = w' := by
 go_enter Tryz.func133, Tryz.ntmps133
 go_wp2_with fail
 refine (isValue_any _ _).mono ?_
 rintro e w' ⟨rfl, rfl⟩
 have HF : Hid ((!decide (0 ≤ n) || !decide (n ≤ 63)) = !isVal n) := by unfold Hid isVal; rw [Bool.not_and]
 go_wp2_with fail
 go_ret
 exact ⟨ret_bool HF.out, rfl⟩

set_option maxHeartbeats 1000000 in
theorem IndexFunc_vals (lo : Nat) (v : Value) (xs : List Int) (w : World) (hv : SliceK 1 encI lo w v xs) :
  Calls Tryz.prog 152 #[v, .func (.func 133) #[] #[]] w fun e w' => ∃ r : Int, e = .returned (.int .i64 r) ∧ decide (0 ≤ r) = !xs.all isVal ∧ w = w' := by
 obtain ⟨a, c, rfl, hcn, hcc, hrow⟩ := hv
 go_enter Tryz.func152, Tryz.ntmps152
 go_wp2_with fail
 go_loop [8] (fun i => ∃ k : Nat, k ≤ xs.length ∧ i = .int .i64 k ∧ ∀ j (h : j < xs.length), j < k → isVal xs[j] = true) (fun i => xs.length - (intOf i).toNat)
 case atStart => exact ⟨0, Nat.zero_le _, rfl, fun _ _ h => by omega⟩
 case round =>
  obtain ⟨k, hk, rfl, ha⟩ := hrel
  have HA := Lib.hid ha
  clear ha
  by_cases hlt : k < xs.length
  ·obtain ⟨b1, o1, rfl, -, hbs, c1⟩ := hrow.one hlt
   simp only [encI, List.getElem?_cons_zero] at c1
   clear hrow
   obtain ⟨b, hb⟩ : ∃ b, isVal xs[k] = b := ⟨_, rfl⟩
   have HB := Lib.hid hb
   clear hb
   go_wp2_with fail
   refine (areValues1_any _ _).mono ?_
   rintro e w' ⟨rfl, rfl⟩
   rw [HB.out]
   cases b
   ·go_wp2_with fail
    go_ret
    refine ⟨_, rfl, ?_, rfl⟩
    have h1 : xs.all isVal = false := by
     rw [List.all_eq_false]
     exact ⟨xs[k], List.getElem_mem _, by rw [HB.out]; simp⟩
    rw [h1]; simp
   ·go_wp2_with fail
    go_round
    case rel => exact ⟨k + 1, by omega, by go_num, fun j h hj => by
     by_cases e : j = k
     ·subst e; exact HB.out
     ·exact HA.out j h (by omega)⟩
    case measure => simp [intOf]; omega
  ·clear hrow
   go_wp2_with fail
   go_ret
   refine ⟨_, rfl, ?_, rfl⟩
   have h1 : xs.all isVal = true := by
    rw [List.all_eq_true]
    intro x hxm
    obtain ⟨j, hj, rfl⟩ := List.mem_iff_getElem.1 hxm
    exact HA.out j hj (by omega)
   rw [h1]; simp

theorem ContainsFunc_vals (lo : Nat) (v : Value) (xs : List Int) (w : World) (hv : SliceK 1 encI lo w v xs) :
  Calls Tryz.prog 132 #[v, .func (.func 133) #[] #[]] w fun e w' => e = .returned (.bool (!xs.all isVal)) ∧ w = w' := by
 have HV := Lib.hid hv
 clear hv
 go_enter Tryz.func132, Tryz.ntmps132
 go_wp2_with fail
 refine (IndexFunc_vals lo v xs _ HV.out).mono ?_
 rintro e w' ⟨r, rfl, hr, rfl⟩
 have HR := Lib.hid hr
 clear hr
 go_wp2_with fail
 go_ret
 exact ⟨ret_bool HR.out, rfl⟩

theorem areValues_any (lo : Nat) (v : Value) (xs : List Int) (w : World) (hv : SliceK 1 encI lo w v xs) :
  Calls Tryz.prog 105 #[v] w fun e w' => e = .returned (.bool (xs.all isVal)) ∧ w = w' := by
 have HV := Lib.hid hv
 clear hv
 go_enter Tryz.func105, Tryz.ntmps105
 go_wp2_with fail
 refine (ContainsFunc_vals lo v xs _ HV.out).mono ?_
 rintro e w' ⟨rfl, rfl⟩
 go_wp2_with fail
 go_ret
 exact ⟨ret_bool (by simp), rfl⟩

end Go.Proofs.YtifoinannefcpaaGreatDoor

namespace Go.Proofs.YtifoinannefcpaaGreatDoor
open Go Go.RowKit

/-- Words read as numbers. -/
def decs (ss : List ByteArray) : List Int := ss.map fun s => (readDec s.data.toList).getD 0
def decsOk (ss : List ByteArray) : Bool := ss.all fun s => (readDec s.data.toList).isSome
def RetNums (ss : List ByteArray) (w : World) (e : Ending) (w' : World) : Prop :=
 ∃ v, e = .returned (.tuple #[v, .bool (decsOk ss)]) ∧ Below w.heap.size w w' ∧ (decsOk ss = true → w'.ownsRow w.heap.size 2 1 v (decs ss).length ((decs ss).map (Value.int .i64)))

theorem decsOk_none {ss : List ByteArray} {j : Nat} (h : j < ss.length) (hn : readDec ss[j].data.toList = none) : decsOk ss = false := by
 unfold decsOk
 rw [List.all_eq_false]
 exact ⟨ss[j], List.getElem_mem _, by rw [hn]; simp⟩

set_option maxRecDepth 100000 in
set_option maxHeartbeats 2000000 in
theorem readNumbers_any (lo : Nat) (v : Value) (ss : List ByteArray) (w : World) (hs : ∀ i (h : i < ss.length), ss[i].size ≤ 1073741824) (hl : ss.length ≤ 1073741824) (hv : SliceK 1 encS lo w v ss) (g : Glob w) :
  Calls Tryz.prog 78 #[v] w (RetNums ss w) := by
 obtain ⟨a, c, rfl, hcn, hcc, hrow⟩ := hv
 obtain ⟨i0, hi, hz0, hz1, hz2⟩ := info_parts info_int64
 have G := Lib.hid g
 have HSZ := Lib.hid hs
 clear g hs
 go_enter Tryz.func78, Tryz.ntmps78
 go_wp2_with fail
 go_loopw [4, 11] (fun v i wr => ∃ k : Nat, k ≤ ss.length ∧ i = .int .i64 k ∧ Below w.heap.size w wr ∧ wr.ownsRow w.heap.size 2 1 v k ((decs (ss.take k)).map (Value.int .i64)) ∧ ∀ q (h : q < ss.length), q < k → (readDec ss[q].data.toList).isSome = true) (fun _ i _ => ss.length - (intOf i).toNat)
 case atStart => exact ⟨0, Nat.zero_le _, rfl, Below.refl _ _, World.ownsRow_nil _ _ _ _, fun _ _ h => by omega⟩
 case round =>
  obtain ⟨k, hk, rfl, hb, ho, ha⟩ := hrel
  have HA := Lib.hid ha
  have HB := Lib.hid hb
  have HO := Lib.hid ho
  have hsz := hb.size
  clear ha hb ho
  by_cases hlt : k < ss.length
  ·obtain ⟨b1, o1, rfl, -, hbs, c1⟩ := (hrow.below HB.out).one hlt
   simp only [encS, List.getElem?_cons_zero] at c1
   clear hrow
   obtain ⟨p, hp⟩ : ∃ p, p = ss[k] := ⟨_, rfl⟩
   rw [← hp] at c1
   have HP := Lib.hid hp
   have hpz : p.size ≤ 1073741824 := by rw [hp]; exact HSZ.out k hlt
   clear hp
   obtain ⟨o, hd⟩ : ∃ o, readDec p.data.toList = o := ⟨_, rfl⟩
   have HD := Lib.hid hd
   clear hd
   go_wp2_with fail
   refine (ReadDecimal_any _ _ hpz (G.out.below HB.out)).mono ?_
   rintro e w1 ⟨rfl, hb1⟩
   have HB1 := Lib.hid hb1
   have hs1 := hb1.size
   clear hb1
   rw [HD.out]
   cases o with
   | none =>
    simp only [Option.isSome_none, Option.getD_none]
    go_wp2_with fail
    go_ret2
    have hf : decsOk ss = false := decsOk_none hlt (by rw [← HP.out]; exact HD.out)
    exact ⟨.slice none 0 0, by rw [hf]; rfl, HB.out.trans (HB1.out.mono hsz), fun h => by rw [hf] at h; cases h⟩
   | some n =>
    simp only [Option.isSome_some, Option.getD_some]
    have HO1 := Lib.hid (owns_below HO.out HB1.out)
    have HBB := Lib.hid (HB.out.trans (HB1.out.mono hsz))
    clear c1
    go_wp2_with (at_builtin; refine wpList_append_own _ rfl _ _ 32 rfl w.heap.size 2 i0 (.int .i64 0) 1 8 Tryz.underlying32 hi hz0 hz1 hz2 rfl (by decide) _ _ _ rfl (HO1.out.alloc _) ⟨w1.heap.size, 0, none⟩ 1 1 [.int .i64 n] rfl rfl ?c1 ?c2 ?c3 ?c4 ?c5 ?_)
    case c1 => exact (cell_one_new _ _ _)
    case c2 => intro u hu; simp at hu; subst hu; rfl
    case c3 => simp [maxLen]; omega
    case c4 => omega
    case c5 => simp; omega
    intro v' w3 ho1 hg1 _
    have HO2 : Hid (w3.ownsRow w.heap.size 2 1 v' (k + 1) ((decs (ss.take (k + 1))).map (Value.int .i64))) := by
     have e : (decs (ss.take (k + 1))).map (Value.int .i64) = (decs (ss.take k)).map (Value.int .i64) ++ [.int .i64 n] := by
      unfold decs
      rw [List.take_succ_eq_append_getElem hlt, List.map_append, List.map_append, ← HP.out]
      simp [HD.out]
     unfold Hid
     rw [e]
     exact ho1
    have HBX : Hid (Below w.heap.size w w3) := (HBB.out.alloc (by omega) _).grown hg1 (by simp; omega) (fun b e => (HO1.out.lt b e).1)
    clear ho1 hg1
    go_wp2
    go_roundw
    case rel => exact ⟨k + 1, by omega, by go_num, HBX.out, HO2.out, fun q h h' => by
     by_cases e : q = k
     ·subst e; rw [← HP.out, HD.out]; rfl
     ·exact HA.out q h (by omega)⟩
    case measure => simp [intOf]; omega
  ·obtain rfl : k = ss.length := by omega
   have HF : Hid (decsOk ss = true) := by
    unfold Hid decsOk
    rw [List.all_eq_true]
    intro x hx
    obtain ⟨q, hq, rfl⟩ := List.mem_iff_getElem.1 hx
    exact HA.out q hq hq
   have HO2 : Hid (wr.ownsRow w.heap.size 2 1 u4 (decs ss).length ((decs ss).map (Value.int .i64))) := by
    have := HO.out
    rw [List.take_length] at this
    unfold Hid
    rw [show (decs ss).length = ss.length from by simp [decs]]
    exact this
   clear hrow HO
   go_wp2_with fail
   go_ret2
   exact ⟨_, by rw [HF.out]; rfl, HB.out, fun _ => HO2.out⟩

end Go.Proofs.YtifoinannefcpaaGreatDoor

namespace Go.Proofs.YtifoinannefcpaaGreatDoor
open Go Go.RowKit

def wordsOf (xs : List Int) : List ByteArray := xs.map fun n => ⟨(Lib.itoa n).toArray⟩

set_option maxHeartbeats 1000000 in
theorem joined_any (v : Value) (sep : ByteArray) (lo : Nat) (xs : List Int) (w : World) (hn : xs.length ≤ 1048576) (hb : ∀ i (h : i < xs.length), -9223372036854775808 ≤ xs[i] ∧ xs[i] ≤ 9223372036854775807) (hv : SliceK 1 encI lo w v xs) (g : Glob w)
  (hlen : (Lib.join ((wordsOf xs).map (·.data.toList)) sep.data.toList).length ≤ 1073741824) :
  Calls Tryz.prog 106 #[v, .string sep] w fun e w' => e = .returned (.string ⟨(Lib.join ((wordsOf xs).map (·.data.toList)) sep.data.toList).toArray⟩) ∧ Below w.heap.size w w' := by
 obtain ⟨a, ca, rfl, hna, hca, ha⟩ := hv
 obtain ⟨i0, hi, hz0, hz1, hz2⟩ := info_parts info_str
 have HBD := Lib.hid hb
 have G := Lib.hid g
 have HLEN := Lib.hid hlen
 clear hb g hlen
 go_enter Tryz.func106, Tryz.ntmps106
 go_wp2_with (at_make; refine wpList_make_full _ rfl _ _ 24 rfl w.heap.size 9 i0 _ 1 Tryz.underlying24 hi hz0 hz1 .i64 .i64 _ _ xs.length rfl rfl rfl rfl ?_ ?_ ?_ ?_)
 ·rw [hz2]; omega
 ·simp [maxLen]; omega
 ·exact Nat.le_refl _
 ·intro w1 ho hg
  rw [toList_madeCells_one] at ho
  have hb1 : Below w.heap.size w w1 := (Below.refl _ w).grown hg (Nat.le_refl _) (fun _ h => by cases h)
  clear hi hz0 hz1 hz2 i0
  have HO := Lib.hid ho
  clear ho hg
  go_wp2_with fail
  have hwl : (wordsOf xs).length = xs.length := by simp [wordsOf]
  go_loopw [13] (fun i wr => ∃ k : Nat, k ≤ xs.length ∧ i = .int .i64 k ∧ Below w.heap.size w wr ∧ w.heap.size < wr.heap.size ∧ wr.ownsRow w.heap.size 9 1 (.slice (some ⟨w.heap.size, 0, none⟩) xs.length xs.length) xs.length (((wordsOf xs).take k).map .string ++ List.replicate ((wordsOf xs).length - k) (.string ⟨#[]⟩))) (fun i _ => xs.length - (intOf i).toNat)
  case atStart => exact ⟨0, Nat.zero_le _, rfl, hb1, (HO.out.lt _ rfl).2, by simpa [hwl] using HO.out⟩
  case round =>
   obtain ⟨k, hk, rfl, hbl, hsl, ho⟩ := hrel
   clear HO hb1
   have HBL := Lib.hid hbl
   have HO1 := Lib.hid ho
   have hsz := hbl.size
   clear ho hbl
   by_cases hlt : k < xs.length
   ·obtain ⟨b1, o1, rfl, -, h1, c1⟩ := (ha.below HBL.out).one hlt
    simp only [encI, List.getElem?_cons_zero] at c1
    clear ha
    go_wp2_with fail
    refine (Decimal_any _ _ (HBD.out k hlt).1 (HBD.out k hlt).2 (G.out.below HBL.out)).mono ?_
    rintro e w2 ⟨rfl, hb2⟩
    have hlt' : k < (wordsOf xs).length := by omega
    have ho3 := owns_below HO1.out hb2
    have c2 := ho3.cellAt k (by omega)
    rw [filled_get _ _ _ _ hlt'] at c2
    have c3 := ho3.frozenAt k
    have ho2 := ho3.stored k (.string (wordsOf xs)[k])
    rw [filled_set _ _ _ _ hlt'] at ho2
    have hwk : (wordsOf xs)[k] = ⟨(Lib.itoa xs[k]).toArray⟩ := by simp [wordsOf]
    rw [hwk] at ho2
    have HO := Lib.hid ho2
    have HB2 := Lib.hid (HBL.out.trans (hb2.mono hsz))
    have hs2 := hb2.size
    clear ho2 ho3 hb2 HO1 HBL c1
    go_wp2
    go_roundw
    case rel => exact ⟨k + 1, by omega, by go_num, HB2.out.setCell (by exact Nat.le_refl _) _, by simp; omega, HO.out.1⟩
    case measure => simp [intOf]; omega
   ·clear ha
    obtain rfl : k = xs.length := by omega
    have ho4 : wr.ownsRow w.heap.size 9 1 (.slice (some ⟨w.heap.size, 0, none⟩) (wordsOf xs).length (wordsOf xs).length) (wordsOf xs).length ((wordsOf xs).flatMap encS) := by
     have := HO1.out
     rw [flat_encS, hwl]
     rw [hwl, ← hwl, List.take_length, Nat.sub_self, List.replicate_zero, List.append_nil, hwl] at this
     exact this
    have HC : Hid (∀ (j : Nat) x, (wordsOf xs)[j]? = some x → wr.cell? ⟨w.heap.size, 0 + j, none⟩ = some (.string x)) := by
     intro j x hx
     obtain ⟨hj, rfl⟩ := List.getElem?_eq_some_iff.1 hx
     have := ho4.cellAt j (by omega)
     rw [Nat.zero_add, this, flat_encS]
     simp [hj]
    clear ho4
    have HJ := Tryz.strings_Join w.heap.size 0 xs.length (wordsOf xs) sep wr HC.out hsl (by omega) (by omega) (Nat.le_trans HLEN.out (by decide))
    rw [hwl] at HJ
    have HJJ := Lib.hid HJ
    clear HJ
    go_wp2_with fail
    refine Calls.mono HJJ.out ?_
    rintro e w2 ⟨rfl, hb2⟩
    have HB2 := Lib.hid (HBL.out.trans (hb2.mono hsz))
    clear hb2
    go_wp2_with fail
    go_ret
    exact ⟨rfl, HB2.out⟩

end Go.Proofs.YtifoinannefcpaaGreatDoor
