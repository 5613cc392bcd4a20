/-
  slices.CompactFunc at lists of texts in order, by slices.Equal: equal neighbours made one.
  The library's Index and Contains at a slice of texts.
  The library's slices.IndexFunc and slices.ContainsFunc at a slice of numbers, with a function that may lay blocks of its own.
  The library's slices.DeleteFunc at a row of numbers of the call's own, with a function that may lay blocks of its own.
  The library's slices.IndexFunc and slices.ContainsFunc at a slice of texts, with a function that may lay blocks of its own.
  The library's slices.DeleteFunc at a row of texts of the call's own, with a function that may lay blocks of its own.
  What the implementation's out computes: the edges from a state.
  The library's Clone at lists of texts.
-/
import Derived.Test.YtodojigmhlkpeaaGreatDoorF17
import Derived.Test.YtodojigmhlkpeaaGreatDoorF18
import Derived.Test.YtodojigmhlkpeaaGreatDoorF6
import Derived.Test.YtodojigmhlkpeaaGreatDoorProg
import Derived.Test.YtodojigmhlkpeaaGreatDoorF1
import Derived.Test.YtodojigmhlkpeaaGreatDoorF3
import Derived.Test.YtodojigmhlkpeaaGreatDoorF5
namespace Go.Proofs.YtodojigmhlkpeaaGreatDoor
open Go Go.RowKit

/-- The place holds a list other than the one ahead of it. -/
def sameP (O : List (List ByteArray)) (js : List Nat) (p : Nat) : Bool := !(p == 0) && decide (lsAt O (js.getD p 0) = lsAt O (js.getD (p - 1) 0))
def keptL (O : List (List ByteArray)) (js : List Nat) : List Nat := ((List.range js.length).filter fun p => !sameP O js p).map fun p => js.getD p 0
theorem getD_lt {js : List Nat} {p : Nat} (h : p < js.length) : js.getD p 0 = js[p] := by rw [List.getD_eq_getElem?_getD, List.getElem?_eq_getElem h]; rfl
theorem range_getD (js : List Nat) : (List.range js.length).map (fun p => js.getD p 0) = js := by
 apply List.ext_getElem (by simp)
 intro i h1 h2
 simp only [List.getElem_map, List.getElem_range]
 exact getD_lt h2
theorem keptL_mem {O : List (List ByteArray)} {js : List Nat} : ∀ k ∈ keptL O js, k ∈ js := fun k hk => by
 unfold keptL at hk
 obtain ⟨p, hp, rfl⟩ := List.mem_map.1 hk
 have hp2 := List.mem_range.1 (List.mem_filter.1 hp).1
 rw [getD_lt hp2]
 exact List.getElem_mem _
theorem kept_compact (O : List (List ByteArray)) (js : List Nat) : ∀ m, m ≤ js.length → (((List.range m).filter fun p => !sameP O js p).map fun p => lsAt O (js.getD p 0)) = Lib.compactUpTo (js.map (lsAt O)).toArray m
 | 0, _ => by simp [Lib.compactUpTo]
 | m + 1, hm => by
  have ih := kept_compact O js m (by omega)
  have hg : ∀ i, i < js.length → (js.map (lsAt O)).toArray[i]! = lsAt O (js.getD i 0) := fun i h => by
   rw [getElem!_pos _ i (by simpa using h), getD_lt h]
   simp
  rw [List.range_succ, List.filter_append, List.map_append, ih, Lib.compactUpTo_succ]
  congr 1
  have hk : Lib.keeps (js.map (lsAt O)).toArray m = !sameP O js m := by
   unfold Lib.keeps sameP
   rw [hg m (by omega)]
   by_cases h0 : m = 0
   ·subst h0; simp
   ·rw [hg (m - 1) (by omega)]
    rw [Bool.eq_iff_iff, decide_eq_true_eq]
    simp [h0]
  rw [hk, hg m (by omega)]
  cases hq : sameP O js m <;> simp [hq]
theorem kept_is {O : List (List ByteArray)} {js : List Nat} (hs : js.Pairwise fun i j => befL (lsAt O j) (lsAt O i) = false) : ((keptL O js).map (lsAt O)).Pairwise (fun a b => befL a b = true) ∧ ∀ o, o ∈ (keptL O js).map (lsAt O) ↔ o ∈ js.map (lsAt O) := by
 have h1 : (keptL O js).map (lsAt O) = Lib.compact (js.map (lsAt O)) := by
  unfold keptL Lib.compact
  rw [List.map_map]
  have := kept_compact O js js.length (Nat.le_refl _)
  rw [List.length_map]
  exact this
 rw [h1]
 refine compact_is (fun a b => befL a b = true) befL_trans _ ?_
 rw [List.pairwise_map]
 exact hs.imp fun {i j} h => by
  cases h2 : befL (lsAt O i) (lsAt O j) with
  | true => exact .inr rfl
  | false => exact .inl (befL_tri _ _ h2 h)

theorem hd_slice {lo : Nat} {w : World} {vs : List Value} {css : List (List Value)} (hp : Pile 9 lo w vs css) (i : Nat) : ∃ a n c, hdAt vs i = .slice a n c := by
 by_cases hi : i < vs.length
 ·rw [hdAt_lt hi]
  obtain ⟨a, c, e, -, -⟩ := owns_slice (hp.row i hi (by rw [← hp.len]; exact hi))
  exact ⟨a, _, c, e⟩
 ·rw [hdAt_ge (by omega)]
  exact ⟨_, _, _, rfl⟩
theorem hd_at {lo : Nat} {w : World} {vs : List Value} {O : List (List ByteArray)} (hp : Pile 9 lo w vs (O.map txts)) (i : Nat) : SliceK 1 encS lo w (hdAt vs i) (lsAt O i) := by
 have hl : vs.length = O.length := by have := hp.len; simpa using this
 by_cases hi : i < vs.length
 ·have hi2 : i < O.length := by omega
  rw [hdAt_lt hi, lsAt_lt hi2]
  have := hp.row i hi (by simpa using hi2)
  rw [List.getElem_map, txts_len] at this
  exact SliceK.of_owns (e := 9) encS_len rfl (by rw [flat_encS]; exact this)
 ·rw [hdAt_ge (by omega), lsAt_ge (by omega)]
  exact ⟨none, 0, rfl, Nat.le_refl _, by decide, .inl rfl⟩
theorem Pile.cells {lo g n c i : Nat} {w : World} {vs : List Value} {css : List (List Value)} {cs : List Value} (h : Pile 9 lo w vs css) (hc : CellsAt w g 22 n c cs) (u : Value) : Pile 9 lo (w.setCell ⟨g, i, none⟩ u) vs css := by
 obtain ⟨r, hr, -⟩ := hc.blk
 exact h.set hr (by decide) i u
theorem Pile.cellsN {lo g n c : Nat} {vs : List Value} {css : List (List Value)} (z : Value) : ∀ (m i : Nat) {w : World} {cs : List Value}, Pile 9 lo w vs css → CellsAt w g 22 n c cs → i + m ≤ n → Pile 9 lo (w.setCells g i (List.replicate m z)) vs css
 | 0, i, w, cs, h, _, _ => h
 | m + 1, i, w, cs, h, hc, hi => by
  rw [List.replicate_succ, World.setCells]
  exact Pile.cellsN z m (i + 1) (h.cells hc z) (hc.set i (by omega) z) (by omega)

set_option maxRecDepth 100000 in
set_option maxHeartbeats 4000000 in
theorem CompactT_own (B : Nat) (v : Value) (vs : List Value) (O : List (List ByteArray)) (js : List Nat) (w0 w : World) (hb : Below B w0 w) (hB : B ≤ w.heap.size) (hp : Pile 9 B w vs (O.map txts)) (ho : w.ownsRow B 22 1 v js.length (js.map (hdAt vs))) (hz : js.length ≤ 1000) (hz2 : ∀ i, (lsAt O i).length ≤ 1000) :
  Calls Tryz.prog 48 #[v, .func (.func 49) #[] #[]] w fun e w' => ∃ v', e = .returned v' ∧ Below B w0 w' ∧ w'.ownsRow B 22 1 v' (keptL O js).length ((keptL O js).map (hdAt vs)) ∧ Pile 9 B w' vs (O.map txts) := by
 have HB := Lib.hid hb
 have HO := Lib.hid ho
 have HP := Lib.hid hp
 have HHB := Lib.hid hB
 obtain ⟨a, c, rfl, hnc, hcc⟩ := owns_slice ho
 obtain ⟨n, hn⟩ : ∃ n, n = js.length := ⟨_, rfl⟩
 have HN := Lib.hid hn
 rw [← hn] at HO hnc hz ⊢
 have HALL : Hid ((∀ p, p < n → sameP O js p = false) → keptL O js = js) := fun h => by
  unfold keptL
  rw [List.filter_eq_self.2 fun p hp => by rw [h p (by rw [HN.out]; exact List.mem_range.1 hp)]; rfl]
  exact range_getD js
 have HEQ : Hid (∀ (w' : World) (i j : Nat), Pile 9 B w' vs (O.map txts) → Calls Tryz.prog 49 #[hdAt vs i, hdAt vs j] w' fun e w'' => e = .returned (.bool (decide (lsAt O i = lsAt O j))) ∧ Below w'.heap.size w' w'') := fun w' i j h => by
  refine (EqualS_any B B _ _ _ _ w' (hd_at h i) (hd_at h j) (by have := hz2 i; omega) (by have := hz2 j; omega)).mono ?_
  rintro e w'' ⟨b, rfl, hbb, hb'⟩
  refine ⟨?_, hb'⟩
  congr 2
  rw [Bool.eq_iff_iff, decide_eq_true_eq]
  exact hbb
 clear hb hp ho hB hn hz2
 by_cases h2 : n < 2
 ·have HF : Hid (keptL O js = js) := HALL.out fun p hp => by
   unfold sameP
   by_cases h0 : p = 0
   ·subst h0; rfl
   ·have : p = 1 ∨ 2 ≤ p := by omega
    omega
  go_enter Tryz.func48, Tryz.ntmps48
  go_wp2
  go_ret
  refine ⟨_, rfl, HB.out, ?_, HP.out⟩
  rw [HF.out, ← HN.out]
  exact HO.out
 ·obtain ⟨g, ha2, hgB⟩ : ∃ g, a = some ⟨g, 0, none⟩ ∧ B ≤ g := by
   rcases HO.out.2 with ⟨e, e2⟩ | ⟨g, cap, cur, e, h1, -⟩
   ·omega
   ·simp only [Value.slice.injEq] at e
    exact ⟨g, e.1, h1⟩
  subst ha2
  have HGB := Lib.hid hgB
  go_enter Tryz.func48, Tryz.ntmps48
  go_wp2
  go_loopw [5] (fun s1 wr => ∃ k : Nat, 1 ≤ k ∧ k ≤ n ∧ s1 = .int .i64 k ∧ Below w.heap.size w wr ∧ ∀ p, p < k → sameP O js p = false) (fun s1 _ => n - (intOf s1).toNat)
  case atStart => exact ⟨1, Nat.le_refl _, by omega, rfl, Below.refl _ _, fun p h => by (obtain rfl : p = 0 := (by omega)); rfl⟩
  case round =>
   obtain ⟨k, hk1, hkn, rfl, hbl, hno⟩ := hrel
   obtain ⟨wC, rfl⟩ : ∃ wC : World, wC = wr := ⟨_, rfl⟩
   have HNO := Lib.hid hno
   have HBL := Lib.hid hbl
   have hszC := hbl.size
   have HOC := Lib.hid (owns_below HO.out hbl)
   have HPC := Lib.hid (HP.out.below hbl)
   clear hno
   by_cases hlt : k < n
   ·obtain ⟨m, rfl⟩ : ∃ m, k = m + 1 := ⟨k - 1, by omega⟩
    have hm1 : m + 1 < js.length := by rw [← HN.out]; exact hlt
    have c1 := HOC.out.cellAt (m + 1) (by omega)
    have c0 := HOC.out.cellAt m (by omega)
    rw [List.getElem?_map, List.getElem?_eq_getElem hm1, Option.map_some] at c1
    rw [List.getElem?_map, List.getElem?_eq_getElem (show m < js.length by omega), Option.map_some] at c0
    have hgw : g < wC.heap.size := (HOC.out.lt g rfl).2
    have hsm : sameP O js (m + 1) = decide (lsAt O js[m + 1] = lsAt O js[m]) := by
     unfold sameP
     rw [getD_lt hm1, Nat.add_sub_cancel, getD_lt (show m < js.length by omega)]
     simp
    obtain ⟨j1, hj1⟩ : ∃ j1, j1 = js[m + 1] := ⟨_, rfl⟩
    obtain ⟨j0, hj0⟩ : ∃ j0, j0 = js[m] := ⟨_, rfl⟩
    rw [← hj1] at c1 hsm
    rw [← hj0] at c0 hsm
    have HE : Hid (∀ w', Below wC.heap.size wC w' → Calls Tryz.prog 49 #[hdAt vs j1, hdAt vs j0] w' fun e w'' => e = .returned (.bool (sameP O js (m + 1))) ∧ Below w'.heap.size w' w'') := fun w' hb => by
     rw [hsm]
     exact HEQ.out w' j1 j0 (HPC.out.below hb)
    obtain ⟨sb, hsb⟩ : ∃ sb, sb = sameP O js (m + 1) := ⟨_, rfl⟩
    rw [← hsb] at HE
    have HSB := Lib.hid hsb
    obtain ⟨x1, hx1⟩ : ∃ x1, x1 = hdAt vs j1 := ⟨_, rfl⟩
    obtain ⟨x0, hx0⟩ : ∃ x0, x0 = hdAt vs j0 := ⟨_, rfl⟩
    rw [← hx1] at c1 HE
    rw [← hx0] at c0 HE
    have lc1 := later_cell hgw c1
    have lc0 := later_cell hgw c0
    have hpi : ((m + 1 : Nat) : Int) - 1 = (m : Int) := by omega
    clear hbl hsm hj1 hj0 hsb hx1 hx0 c1 c0
    cases sb
    ·go_wp2
     refine wp_region_later (by kernel_rfl) (by kernel_rfl) ?_
     repeat (go_big_quiet_step ((go_at_call 49; exact later_call (HE.out _ (Later.h _)))))
     refine wpQuiet_nil ?_
     intro _ hw9
     obtain ⟨nl, hw8⟩ := hw9
     subst hw8
     have HBN := Lib.hid (HBL.out.trans (nl.h.mono hszC))
     clear lc1 lc0
     go_wp2
     go_roundw
     case rel => exact ⟨m + 1 + 1, by omega, by omega, by go_num, HBN.out, fun p h => by
      by_cases e : p = m + 1
      ·subst e; exact HSB.out.symm
      ·exact HNO.out p (by omega)⟩
     case measure => simp [intOf]; omega
    ·go_wp2
     refine wp_region_later (by kernel_rfl) (by kernel_rfl) ?_
     repeat (go_big_quiet_step ((go_at_call 49; exact later_call (HE.out _ (Later.h _)))))
     refine wpQuiet_nil ?_
     intro _ hw9
     obtain ⟨nl, hw8⟩ := hw9
     subst hw8
     obtain ⟨wD, hwD⟩ : ∃ wD, wD = nl.w := ⟨_, rfl⟩
     have hbD : Below wC.heap.size wC wD := by rw [hwD]; exact nl.h
     rw [← hwD]
     have HBD : Hid (Below B w0 wD) := HB.out.trans ((HBL.out.trans (hbD.mono hszC)).mono HHB.out)
     have HOD := Lib.hid (owns_below HOC.out hbD)
     have HPD := Lib.hid (HPC.out.below hbD)
     have HCD : Hid (CellsAt wD g 22 n c (js.map (hdAt vs))) := CellsAt.of_owns HOD.out
     have HIN : Hid (KeptIn (sameP O js) (List.range n) (m + 1) (m + 1 + 1) (fun p => hdAt vs (js.getD p 0)) (js.map (hdAt vs))) := by
      have h := KeptIn.start (P := sameP O js) (xs := List.range n) (con := fun p => hdAt vs (js.getD p 0)) (k := m + 1) (by simpa using hlt) (fun j h hj => by rw [List.getElem_range]; exact HNO.out j hj) (by rw [List.getElem_range]; exact HSB.out.symm)
      have e : (List.range n).map (fun p => hdAt vs (js.getD p 0)) = js.map (hdAt vs) := by
       conv => rhs; rw [← range_getD js, List.map_map]
       rw [HN.out]
       rfl
      rw [e] at h
      exact h
     have HPRE : Hid ((js.map (hdAt vs))[m + 1]? = some (hdAt vs (js.getD (m + 1) 0))) := by
      unfold Hid
      rw [List.getElem?_map, List.getElem?_eq_getElem hm1, getD_lt hm1]
      rfl
     obtain ⟨NL, hNL⟩ : ∃ NL, NL = n - (m + 1) := ⟨_, rfl⟩
     have hNL2 : m + 1 + NL = n := by omega
     have hcm : m + 1 ≤ c := by omega
     have HNL := Lib.hid hNL
     clear lc1 lc0 hbD hwD nl HE hNL
     go_wp2
     try rw [← HNL.out]
     go_loopw [5, 7] (fun s5 s7 wr => ∃ (i q : Nat) (cs : List Value), s5 = .int .i64 i ∧ s7 = .int .i64 q ∧ 1 ≤ q ∧ q ≤ NL ∧ Below B w0 wr ∧ CellsAt wr g 22 n c cs ∧ KeptIn (sameP O js) (List.range n) i (m + 1 + q) (fun p => hdAt vs (js.getD p 0)) cs ∧ cs[m + q]? = some (hdAt vs (js.getD (m + q) 0)) ∧ Pile 9 B wr vs (O.map txts)) (fun _ s7 _ => NL - (intOf s7).toNat)
     case atStart => exact ⟨m + 1, 1, _, by go_num, rfl, Nat.le_refl _, by omega, HBD.out, HCD.out, HIN.out, HPRE.out, HPD.out⟩
     case round =>
      clear HBD HCD HIN HPRE HPD HOD
      obtain ⟨i, q, cs, rfl, rfl, hq1, hqN, hb5, hca, hki, hpre, hpl⟩ := hrel
      obtain ⟨w5, rfl⟩ : ∃ w5 : World, w5 = wr := ⟨_, rfl⟩
      have HB5 := Lib.hid hb5
      have HCA := Lib.hid hca
      have HKI := Lib.hid hki
      have HP5 := Lib.hid hpl
      have hij := hki.lt
      by_cases hltq : q < NL
      ·obtain ⟨r, rfl⟩ : ∃ r, q = r + 1 := ⟨q - 1, by omega⟩
       have hjn : m + 1 + (r + 1) < js.length := by rw [← HN.out]; omega
       have hjr : m + 1 + (r + 1) < (List.range n).length := by rw [List.length_range]; omega
       have e1 : m + (r + 1) = m + 1 + r := by omega
       rw [e1] at hpre
       have cp := hca.cell (m + 1 + r) (by omega)
       rw [hpre] at cp
       have cj := hca.cell (m + 1 + (r + 1)) (by omega)
       rw [hki.high _ hjr (Nat.le_refl _)] at cj
       simp only [List.getElem_range] at cj
       have hgl := hca.lt
       have hsm : sameP O js (m + 1 + (r + 1)) = decide (lsAt O (js.getD (m + 1 + (r + 1)) 0) = lsAt O (js.getD (m + 1 + r) 0)) := by
        unfold sameP
        have e2 : m + 1 + (r + 1) - 1 = m + 1 + r := by omega
        rw [e2]
        simp
       obtain ⟨jj, hjj⟩ : ∃ jj, jj = js.getD (m + 1 + (r + 1)) 0 := ⟨_, rfl⟩
       obtain ⟨jp, hjp⟩ : ∃ jp, jp = js.getD (m + 1 + r) 0 := ⟨_, rfl⟩
       rw [← hjj] at cj hsm
       rw [← hjp] at cp hsm
       have HE : Hid (∀ w', Below w5.heap.size w5 w' → Calls Tryz.prog 49 #[hdAt vs jj, hdAt vs jp] w' fun e w'' => e = .returned (.bool (sameP O js (m + 1 + (r + 1)))) ∧ Below w'.heap.size w' w'') := fun w' hb => by
        rw [hsm]
        exact HEQ.out w' jj jp (HP5.out.below hb)
       obtain ⟨sb, hsb⟩ : ∃ sb, sb = sameP O js (m + 1 + (r + 1)) := ⟨_, rfl⟩
       rw [← hsb] at HE
       have HSB2 := Lib.hid hsb
       have HJJ := Lib.hid hjj
       obtain ⟨xa, xn, xc, hxe⟩ := hd_slice hpl jj
       obtain ⟨x0, hx0⟩ : ∃ x0, x0 = hdAt vs jp := ⟨_, rfl⟩
       rw [hxe] at cj HE
       rw [← hx0] at cp HE
       have HXE := Lib.hid hxe
       have CJ := Lib.hid cj
       have lcj := later_cell hgl cj
       have lcp := later_cell hgl cp
       have hpi : ((r + 1 : Nat) : Int) - 1 = (r : Int) := by omega
       clear hb5 hca hki hpre hpl hsm hjj hjp hsb hxe hx0 cj cp
       cases sb
       ·go_wp2
        refine wp_region_later (by kernel_rfl) (by kernel_rfl) ?_
        repeat (go_big_quiet_step ((go_at_call 49; exact later_call (HE.out _ (Later.h _)))))
        refine wpQuiet_nil ?_
        intro _ hw9
        obtain ⟨nl, hw8⟩ := hw9
        subst hw8
        obtain ⟨w6, hw6⟩ : ∃ w6, w6 = nl.w := ⟨_, rfl⟩
        have hb6 : Below w5.heap.size w5 w6 := by rw [hw6]; exact nl.h
        rw [← hw6]
        have hca6 := HCA.out.below hb6
        have HCA6 := Lib.hid hca6
        have cj := keeps hb6 hgl CJ.out
        obtain ⟨old, ci⟩ := hca6.cell_some i (by omega)
        have fi := hca6.frozen i
        have hg6 := hca6.lt
        have HB6 := Lib.hid (HB5.out.trans (hb6.mono (show B ≤ w5.heap.size from by have := HGB.out; omega)))
        have HP6 := Lib.hid ((HP5.out.below hb6).cells (i := i) hca6 (.slice xa xn xc))
        clear lcj lcp hb6 hw6 nl HE hca6
        go_wp2
        go_roundw
        case rel => exact ⟨i + 1, r + 1 + 1, cs.set i (.slice xa xn xc), by go_num, by go_num, by omega, by omega, HB6.out.setCell HGB.out _, HCA6.out.set i (by omega) _, by have h := HKI.out.keep hjr (by rw [List.getElem_range]; exact HSB2.out.symm); simp only [List.getElem_range] at h; rw [← HJJ.out, HXE.out] at h; exact h, by rw [List.getElem?_set_ne (by omega), show m + (r + 1 + 1) = m + 1 + (r + 1) from by omega, HKI.out.high _ hjr (Nat.le_refl _)]; simp only [List.getElem_range], HP6.out⟩
        case measure => simp [intOf]; omega
       ·go_wp2
        refine wp_region_later (by kernel_rfl) (by kernel_rfl) ?_
        repeat (go_big_quiet_step ((go_at_call 49; exact later_call (HE.out _ (Later.h _)))))
        refine wpQuiet_nil ?_
        intro _ hw9
        obtain ⟨nl, hw8⟩ := hw9
        subst hw8
        obtain ⟨w6, hw6⟩ : ∃ w6, w6 = nl.w := ⟨_, rfl⟩
        have hb6 : Below w5.heap.size w5 w6 := by rw [hw6]; exact nl.h
        rw [← hw6]
        have HCA6 := Lib.hid (HCA.out.below hb6)
        have HB6 := Lib.hid (HB5.out.trans (hb6.mono (show B ≤ w5.heap.size from by have := HGB.out; omega)))
        have HP6 := Lib.hid (HP5.out.below hb6)
        clear lcj lcp hb6 hw6 nl HE
        go_wp2
        go_roundw
        case rel => exact ⟨i, r + 1 + 1, cs, rfl, by go_num, by omega, by omega, HB6.out, HCA6.out, HKI.out.drop hjr (by rw [List.getElem_range]; exact HSB2.out.symm), by rw [show m + (r + 1 + 1) = m + 1 + (r + 1) from by omega, HKI.out.high _ hjr (Nat.le_refl _)]; simp only [List.getElem_range], HP6.out⟩
        case measure => simp [intOf]; omega
      ·obtain rfl : q = NL := by omega
       have HLEN : Hid ((keptL O js).length = i ∧ i ≤ n ∧ (keptL O js).map (hdAt vs) = cs.take i) := by
        have h := hki.all (by rw [List.length_range]; omega)
        unfold keptL
        rw [List.length_map, List.map_map, ← HN.out]
        exact ⟨h.1, by omega, h.2⟩
       have hij2 : i < n := by omega
       have hcl : ∀ ty, (Builtin.clear_ #[46] ty #[.slice (some ⟨g, i, none⟩) (n - i) (c - i)]).run Tryz.prog w5 = .ok (.tuple #[]) (w5.setCells g i (List.replicate (n - i) (.slice none 0 0))) :=
        fun ty => Lib.run_clear_slice w5 _ _ ty _ Tryz.underlying46 (fun w => by kernel_rfl) rfl rfl g i _ _ (by omega) (fun t ht => by obtain ⟨o, ho⟩ := hca.cell_some (i + t) (by omega); rw [ho]; rfl) (fun t ht => hca.frozen (i + t))
       have HCAF : Hid (CellsAt (w5.setCells g i (List.replicate (n - i) (.slice none 0 0))) g 22 n c (cs.take i ++ List.replicate (n - i) (.slice none 0 0))) := hca.clear hij2
       have HBF : Hid (Below B w0 (w5.setCells g i (List.replicate (n - i) (.slice none 0 0)))) := below_setCells HGB.out _ _ _ hb5
       have HPF : Hid (Pile 9 B (w5.setCells g i (List.replicate (n - i) (.slice none 0 0))) vs (O.map txts)) := hpl.cellsN _ _ _ hca (by omega)
       clear hb5 hca hki hij hpre hpl
       go_wp2_with fail
       go_ret
       refine ⟨_, rfl, HBF.out, ?_, HPF.out⟩
       rw [HLEN.out.1, HLEN.out.2.2]
       exact HCAF.out.owns (by rw [List.take_append_of_le_length (by have := HCAF.out.len; simp at this ⊢; omega), List.take_take]; simp) HLEN.out.2.1 HGB.out hnc hcc
   ·obtain rfl : k = n := by omega
    have HF : Hid (keptL O js = js) := HALL.out HNO.out
    have HBN := Lib.hid (HB.out.trans (HBL.out.mono HHB.out))
    clear hbl
    go_wp2
    go_ret
    refine ⟨_, rfl, HBN.out, ?_, HPC.out⟩
    rw [HF.out, ← HN.out]
    exact HOC.out

end Go.Proofs.YtodojigmhlkpeaaGreatDoor

namespace Go.Proofs.YtodojigmhlkpeaaGreatDoor
open Go Go.RowKit

theorem Index_strs (lo : Nat) (v : Value) (x : ByteArray) (xs : List ByteArray) (w : World) (hv : SliceK 1 encS lo w v xs) :
  Calls Tryz.prog 104 #[v, .string x] w fun e w' => ∃ r : Int, e = .returned (.int .i64 r) ∧ decide (0 ≤ r) = (xs.any fun y => y.toList == x.toList) ∧ w = w' := by
 obtain ⟨a, c, rfl, hcn, hcc, hrow⟩ := hv
 go_enter Tryz.func104, Tryz.ntmps104
 go_wp2_with fail
 go_loop [8] (fun i => ∃ k : Nat, k ≤ xs.length ∧ i = .int .i64 k ∧ ∀ j (h : j < xs.length), j < k → (x.toList == xs[j].toList) = false) (fun i => xs.length - (intOf i).toNat)
 case atStart => exact ⟨0, Nat.zero_le _, rfl, fun _ _ h => by omega⟩
 case round =>
  obtain ⟨k, hk, rfl, ha⟩ := hrel
  have HA := Lib.hid ha
  clear ha
  by_cases hlt : k < xs.length
  ·obtain ⟨b1, o1, rfl, -, hbs, c1⟩ := hrow.one hlt
   simp only [encS, List.getElem?_cons_zero] at c1
   clear hrow
   cases h0 : (x.toList == xs[k].toList)
   ·have H0 := Lib.hid h0
    go_wp2_with fail
    go_round
    case rel => exact ⟨k + 1, by omega, by go_num, fun j h hj => by
     by_cases e : j = k
     ·subst e; exact H0.out
     ·exact HA.out j h (by omega)⟩
    case measure => simp [intOf]; omega
   ·have HF : Hid ((xs.any fun y => y.toList == x.toList) = true) := by
     unfold Hid
     rw [List.any_eq_true]
     exact ⟨xs[k], List.getElem_mem _, by rw [beq_iff_eq] at h0 ⊢; exact h0.symm⟩
    go_wp2_with fail
    go_ret
    exact ⟨_, rfl, by rw [HF.out]; simp, rfl⟩
  ·clear hrow
   go_wp2_with fail
   go_ret
   refine ⟨_, rfl, ?_, rfl⟩
   have : (xs.any fun y => y.toList == x.toList) = false := by
    rw [List.any_eq_false]
    intro y hy
    obtain ⟨j, hj, rfl⟩ := List.mem_iff_getElem.1 hy
    have := HA.out j hj (by omega)
    simp at this ⊢
    exact fun e => this e.symm
   rw [this]; simp

theorem Contains_strs (lo : Nat) (v : Value) (x : ByteArray) (xs : List ByteArray) (w : World) (hv : SliceK 1 encS lo w v xs) :
  Calls Tryz.prog 90 #[v, .string x] w fun e w' => e = .returned (.bool (xs.any fun y => y.toList == x.toList)) ∧ w = w' := by
 have HV := Lib.hid hv
 clear hv
 go_enter Tryz.func90, Tryz.ntmps90
 go_wp2_with fail
 refine (Index_strs lo v x xs _ HV.out).mono ?_
 rintro e w' ⟨r, rfl, hr, rfl⟩
 have HR := Lib.hid hr
 clear hr
 go_wp2_with fail
 go_ret
 exact ⟨ret_bool HR.out, rfl⟩

end Go.Proofs.YtodojigmhlkpeaaGreatDoor

namespace Go.Proofs.YtodojigmhlkpeaaGreatDoor
open Go Go.RowKit

def idxI (P : Int → Bool) (xs : List Int) : Int := if xs.findIdx P < xs.length then (xs.findIdx P : Nat) else -1
theorem idxI_neg {P : Int → Bool} {xs : List Int} : idxI P xs = -1 ↔ ∀ x ∈ xs, P x = false := by
 unfold idxI
 by_cases h : xs.findIdx P < xs.length
 ·rw [if_pos h]
  refine ⟨fun e => by omega, fun h2 => ?_⟩
  obtain ⟨x, hx, hp⟩ := List.findIdx_lt_length.1 h
  rw [h2 x hx] at hp
  cases hp
 ·rw [if_neg h]
  refine ⟨fun _ x hx => ?_, fun _ => rfl⟩
  cases hp : P x
  ·rfl
  ·exact absurd (List.findIdx_lt_length.2 ⟨x, hx, hp⟩) h
/-- A function of one element that answers P, and turns nothing that was there. -/
def AskI (fid : Nat) (caps : Array Value) (P : Int → Bool) (xs : List Int) (B : Nat) (w : World) : Prop :=
 ∀ w', Below B w w' → ∀ x ∈ xs, Calls Tryz.prog fid (#[.int .i64 x] ++ caps) w' fun e w'' => e = .returned (.bool (P x)) ∧ Below w'.heap.size w' w''

set_option maxRecDepth 100000 in
set_option maxHeartbeats 1000000 in
theorem IndexFuncI (lo : Nat) (v : Value) (xs : List Int) (fid : Nat) (caps : Array Value) (P : Int → Bool) (w : World) (hv : SliceK 1 encI lo w v xs) (eg : ∀ args w, (callFunc fid args).run Tryz.prog w = .ok (.enter fid args) w) (hP : AskI fid caps P xs w.heap.size w) :
  Calls Tryz.prog 107 #[v, .func (.func fid) #[] caps] w fun e w' => e = .returned (.int .i64 (idxI P xs)) ∧ Below w.heap.size w w' := by
 obtain ⟨a, c, rfl, hcn, hcc, hrow⟩ := hv
 have HR := Lib.hid hrow
 have HP := Lib.hid hP
 clear hP hrow
 go_enter Tryz.func107, Tryz.ntmps107
 go_wp2_with fail
 go_loopw [8] (fun i wr => ∃ k : Nat, k ≤ xs.length ∧ i = .int .i64 k ∧ Below w.heap.size w wr ∧ ∀ j (h : j < xs.length), j < k → P xs[j] = false) (fun i _ => xs.length - (intOf i).toNat)
 case atStart => exact ⟨0, Nat.zero_le _, rfl, Below.refl _ _, fun _ _ h => by omega⟩
 case round =>
  obtain ⟨k, hk, rfl, hbl, ha⟩ := hrel
  have HA := Lib.hid ha
  have HBL := Lib.hid hbl
  clear ha
  by_cases hlt : k < xs.length
  ·obtain ⟨b1, o1, rfl, -, hbs, c1⟩ := (HR.out.below hbl).one hlt
   simp only [encI, List.getElem?_cons_zero] at c1
   clear hbl
   obtain ⟨x, hx⟩ : ∃ x, x = xs[k] := ⟨_, rfl⟩
   rw [← hx] at c1
   have HX := Lib.hid hx
   have HC := Lib.hid (HP.out wr HBL.out x (by rw [hx]; exact List.getElem_mem _))
   obtain ⟨b, hb⟩ : ∃ b, b = P x := ⟨_, rfl⟩
   rw [← hb] at HC
   have HB := Lib.hid hb
   clear hb hx
   go_wp2_with fail
   refine Calls.mono HC.out ?_
   rintro e w1 ⟨rfl, hb1⟩
   have HB1 := Lib.hid (HBL.out.trans (hb1.mono HBL.out.size))
   clear hb1 c1
   cases b
   ·go_wp2_with fail
    go_roundw
    case rel => exact ⟨k + 1, by omega, by go_num, HB1.out, fun j h hj => by
     by_cases e : j = k
     ·subst e; rw [← HX.out]; exact HB.out.symm
     ·exact HA.out j h (by omega)⟩
    case measure => simp [intOf]; omega
   ·have HI : Hid (idxI P xs = (k : Int)) := by
     unfold Hid idxI
     have h1 : xs.findIdx P = k := by
      rw [List.findIdx_eq hlt]
      exact ⟨by rw [← HX.out]; exact HB.out.symm, fun j hj => HA.out j (by omega) hj⟩
     rw [h1, if_pos hlt]
    go_wp2_with fail
    go_ret
    exact ⟨ret_int HI.out.symm, HB1.out⟩
  ·clear hbl
   have HI : Hid (idxI P xs = -1) := by
    unfold Hid
    rw [idxI_neg]
    intro x hx
    obtain ⟨j, hj, rfl⟩ := List.mem_iff_getElem.1 hx
    exact HA.out j hj (by omega)
   go_wp2_with fail
   go_ret
   exact ⟨ret_int HI.out.symm, HBL.out⟩

end Go.Proofs.YtodojigmhlkpeaaGreatDoor

namespace Go.Proofs.YtodojigmhlkpeaaGreatDoor
open Go Go.RowKit

set_option maxRecDepth 100000 in
set_option maxHeartbeats 2000000 in
theorem DeleteFuncI (B : Nat) (v : Value) (xs : List Int) (fid : Nat) (caps : Array Value) (P : Int → Bool) (w0 w : World) (ho : w.ownsRow B 2 1 v xs.length (xs.map (Value.int .i64))) (hb : Below B w0 w) (hB : B ≤ w.heap.size)
  (eg : ∀ args w, (callFunc fid args).run Tryz.prog w = .ok (.enter fid args) w) (hP : AskI fid caps P xs B w0) :
  Calls Tryz.prog 76 #[v, .func (.func fid) #[] caps] w fun e w' => ∃ v', e = .returned v' ∧ Below B w0 w' ∧ w'.ownsRow B 2 1 v' (xs.filter fun x => !P x).length ((xs.filter fun x => !P x).map (Value.int .i64)) := by
 have HP := Lib.hid hP
 have HB := Lib.hid hb
 have HO := Lib.hid ho
 have HIX := Lib.hid (IndexFuncI B v xs fid caps P w (SliceK.of_owns (e := 2) encI_len rfl (by rw [flat_encI]; exact ho)) eg fun w' hb' x hx => hP w' (hb.trans (hb'.mono hB)) x hx)
 have HHB := Lib.hid hB
 obtain ⟨a, c, rfl, hnc, hcc⟩ := owns_slice ho
 obtain ⟨r, hr⟩ : ∃ r, r = idxI P xs := ⟨_, rfl⟩
 rw [← hr] at HIX
 have HRI := Lib.hid hr
 obtain ⟨nx, hnx⟩ : ∃ nx, nx = xs.length := ⟨_, rfl⟩
 have HNX := Lib.hid hnx
 rw [← hnx] at HIX hnc ⊢
 clear hP hb ho hB hr hnx
 by_cases hneg : r = -1
 ·subst hneg
  have HF : Hid ((xs.filter fun x => !P x) = xs) := by
   unfold Hid
   rw [List.filter_eq_self]
   intro x hx
   rw [idxI_neg.1 HRI.out.symm x hx]
   rfl
  go_enter Tryz.func76, Tryz.ntmps76
  go_wp2_with fail
  refine Calls.mono HIX.out ?_
  rintro e w1 ⟨rfl, hb1⟩
  have HB1 := Lib.hid (HB.out.trans (hb1.mono HHB.out))
  have HO1 := Lib.hid (owns_below HO.out hb1)
  clear hb1 HIX
  go_wp2_with fail
  go_ret
  refine ⟨_, rfl, HB1.out, ?_⟩
  rw [HF.out, ← HNX.out]
  have h := HO1.out
  rw [← HNX.out] at h
  exact h
 ·obtain ⟨k0, hk0, hlt0, hp0, hpl⟩ : ∃ k0 : Nat, r = (k0 : Int) ∧ k0 < nx ∧ (∃ h : k0 < xs.length, P xs[k0] = true) ∧ ∀ j (h : j < xs.length), j < k0 → P xs[j] = false := by
   have h1 := HRI.out
   have h2 := HNX.out
   unfold idxI at h1
   by_cases hf : xs.findIdx P < xs.length
   ·rw [if_pos hf] at h1
    refine ⟨xs.findIdx P, h1, by omega, ⟨hf, List.findIdx_getElem (w := hf)⟩, fun j hj hjk => ?_⟩
    have := List.not_of_lt_findIdx hjk
    simpa using this
   ·rw [if_neg hf] at h1
    exact absurd h1 hneg
  subst hk0
  obtain ⟨g, ha2, hgB⟩ : ∃ g, a = some ⟨g, 0, none⟩ ∧ B ≤ g := by
   rcases HO.out.2 with ⟨e, e2⟩ | ⟨g, cap, cur, e, h1, -⟩
   ·have := HNX.out; omega
   ·simp only [Value.slice.injEq] at e
    exact ⟨g, e.1, h1⟩
  subst ha2
  have HGB := Lib.hid hgB
  have HIN : Hid (KeptIn P xs k0 (k0 + 1) (fun x => ((Value.int .i64) x))  (xs.map (Value.int .i64))) := KeptIn.start (by have := HNX.out; omega) hpl hp0.2
  have hne1 : ((k0 : Int) == -1) = false := beq_eq_false_iff_ne.2 (by omega)
  clear hneg hp0 hpl HRI
  go_enter Tryz.func76, Tryz.ntmps76
  go_wp2_with fail
  refine Calls.mono HIX.out ?_
  rintro e w1 ⟨rfl, hb1⟩
  have HB1 := Lib.hid (HB.out.trans (hb1.mono HHB.out))
  have HO1 : Hid (CellsAt w1 g 2 nx c (xs.map (Value.int .i64))) := CellsAt.of_owns (by have h := owns_below HO.out hb1; rw [← HNX.out] at h; exact h)
  clear hb1 HIX
  go_wp2_with fail
  go_loopw [5, 6, 7] (fun s5 s6 _ wr => ∃ (i j : Nat) (cs : List Value), s5 = .int .i64 i ∧ s6 = .int .i64 j ∧ j ≤ nx ∧ Below B w0 wr ∧ CellsAt wr g 2 nx c cs ∧ KeptIn P xs i j (fun x => (Value.int .i64) x) cs) (fun _ s6 _ _ => nx - (intOf s6).toNat)
  case atStart => exact ⟨k0, k0 + 1, _, rfl, by go_num, by omega, HB1.out, HO1.out, HIN.out⟩
  case round =>
   obtain ⟨i, j, cs, rfl, rfl, hj, hbl, hca, hki⟩ := hrel
   have HBL := Lib.hid hbl
   have HCA := Lib.hid hca
   have HKI := Lib.hid hki
   have hij := hki.lt
   by_cases hlt : j < nx
   ·have hltx : j < xs.length := by have := HNX.out; omega
    obtain ⟨x, hx⟩ : ∃ x, x = xs[j] := ⟨_, rfl⟩
    have HX := Lib.hid hx
    have cj : wr.cell? ⟨g, j, none⟩ = some (.int .i64 x) := by
     have h1 := hca.cell j (by omega)
     have h2 := hki.high j hltx (Nat.le_refl _)
     rw [h1, h2, hx]
    have ci := hca.cell_some i (by omega)
    obtain ⟨old, ci⟩ := ci
    have fi := hca.frozen i
    have hgl := hca.lt
    have HC := Lib.hid (HP.out wr hbl x (by rw [hx]; exact List.getElem_mem _))
    obtain ⟨b, hb⟩ : ∃ b, b = P x := ⟨_, rfl⟩
    rw [← hb] at HC
    have HBP := Lib.hid hb
    clear hb hx hbl hca hki ci fi
    go_wp2_with fail
    refine Calls.mono HC.out ?_
    rintro e w2 ⟨rfl, hb2⟩
    have HBL2 := Lib.hid (HBL.out.trans (hb2.mono (show B ≤ wr.heap.size from by have := HGB.out; omega)))
    have hca2 := HCA.out.below hb2
    have HCA2 := Lib.hid hca2
    obtain ⟨old, ci⟩ := hca2.cell_some i (by omega)
    have fi := hca2.frozen i
    clear hb2 hca2 cj
    cases b
    ·go_wp2_with fail
     go_roundw
     case rel => exact ⟨i + 1, j + 1, cs.set i (.int .i64 x), by go_num, by go_num, by omega, HBL2.out.setCell HGB.out _, HCA2.out.set i (by omega) _, by have h := HKI.out.keep hltx (by rw [← HX.out]; exact HBP.out.symm); rw [← HX.out] at h; exact h⟩
     case measure => simp [intOf]; omega
    ·go_wp2_with fail
     go_roundw
     case rel => exact ⟨i, j + 1, cs, rfl, by go_num, by omega, HBL2.out, HCA2.out, HKI.out.drop hltx (by rw [← HX.out]; exact HBP.out.symm)⟩
     case measure => simp [intOf]; omega
   ·obtain rfl : j = nx := by omega
    have HLEN : Hid ((xs.filter fun x => !P x).length = i ∧ i ≤ j ∧ (xs.filter fun x => !P x).map (Value.int .i64) = cs.take i) := by
     have h := hki.all (by have := HNX.out; omega)
     exact ⟨h.1, by omega, h.2⟩
    have hij2 : i < j := hij
    have hcl : ∀ ty, (Builtin.clear_ #[48] ty #[.slice (some ⟨g, i, none⟩) (j - i) (c - i)]).run Tryz.prog wr = .ok (.tuple #[]) (wr.setCells g i (List.replicate (j - i) (.int .i64 0))) :=
     fun ty => Lib.run_clear_slice wr _ _ ty _ Tryz.underlying48 (fun w => by kernel_rfl) rfl rfl g i _ _ (by omega) (fun t ht => by obtain ⟨o, ho⟩ := hca.cell_some (i + t) (by omega); rw [ho]; rfl) (fun t ht => hca.frozen (i + t))
    have HCAF : Hid (CellsAt (wr.setCells g i (List.replicate (j - i) (.int .i64 0))) g 2 j c (cs.take i ++ List.replicate (j - i) (.int .i64 0))) := hca.clear hij2
    have HBF : Hid (Below B w0 (wr.setCells g i (List.replicate (j - i) (.int .i64 0)))) := below_setCells HGB.out _ _ _ hbl
    clear hbl hca hki hij
    go_wp2_with fail
    go_ret
    refine ⟨_, rfl, HBF.out, ?_⟩
    rw [HLEN.out.1, HLEN.out.2.2]
    exact HCAF.out.owns (by rw [List.take_append_of_le_length (by have := HCAF.out.len; simp at this ⊢; omega), List.take_take]; simp) HLEN.out.2.1 HGB.out hnc hcc

end Go.Proofs.YtodojigmhlkpeaaGreatDoor

namespace Go.Proofs.YtodojigmhlkpeaaGreatDoor
open Go Go.RowKit

def idxS (P : ByteArray → Bool) (xs : List ByteArray) : Int := if xs.findIdx P < xs.length then (xs.findIdx P : Nat) else -1
theorem idxS_neg {P : ByteArray → Bool} {xs : List ByteArray} : idxS P xs = -1 ↔ ∀ x ∈ xs, P x = false := by
 unfold idxS
 by_cases h : xs.findIdx P < xs.length
 ·rw [if_pos h]
  refine ⟨fun e => by omega, fun h2 => ?_⟩
  obtain ⟨x, hx, hp⟩ := List.findIdx_lt_length.1 h
  rw [h2 x hx] at hp
  cases hp
 ·rw [if_neg h]
  refine ⟨fun _ x hx => ?_, fun _ => rfl⟩
  cases hp : P x
  ·rfl
  ·exact absurd (List.findIdx_lt_length.2 ⟨x, hx, hp⟩) h
/-- A function of one element that answers P, and turns nothing that was there. -/
def AskS (fid : Nat) (caps : Array Value) (P : ByteArray → Bool) (xs : List ByteArray) (B : Nat) (w : World) : Prop :=
 ∀ w', Below B w w' → ∀ x ∈ xs, Calls Tryz.prog fid (#[.string x] ++ caps) w' fun e w'' => e = .returned (.bool (P x)) ∧ Below w'.heap.size w' w''

set_option maxRecDepth 100000 in
set_option maxHeartbeats 1000000 in
theorem IndexFuncS (lo : Nat) (v : Value) (xs : List ByteArray) (fid : Nat) (caps : Array Value) (P : ByteArray → Bool) (w : World) (hv : SliceK 1 encS lo w v xs) (eg : ∀ args w, (callFunc fid args).run Tryz.prog w = .ok (.enter fid args) w) (hP : AskS fid caps P xs w.heap.size w) :
  Calls Tryz.prog 121 #[v, .func (.func fid) #[] caps] w fun e w' => e = .returned (.int .i64 (idxS P xs)) ∧ Below w.heap.size w w' := by
 obtain ⟨a, c, rfl, hcn, hcc, hrow⟩ := hv
 have HR := Lib.hid hrow
 have HP := Lib.hid hP
 clear hP hrow
 go_enter Tryz.func121, Tryz.ntmps121
 go_wp2_with fail
 go_loopw [8] (fun i wr => ∃ k : Nat, k ≤ xs.length ∧ i = .int .i64 k ∧ Below w.heap.size w wr ∧ ∀ j (h : j < xs.length), j < k → P xs[j] = false) (fun i _ => xs.length - (intOf i).toNat)
 case atStart => exact ⟨0, Nat.zero_le _, rfl, Below.refl _ _, fun _ _ h => by omega⟩
 case round =>
  obtain ⟨k, hk, rfl, hbl, ha⟩ := hrel
  have HA := Lib.hid ha
  have HBL := Lib.hid hbl
  clear ha
  by_cases hlt : k < xs.length
  ·obtain ⟨b1, o1, rfl, -, hbs, c1⟩ := (HR.out.below hbl).one hlt
   simp only [encS, List.getElem?_cons_zero] at c1
   clear hbl
   obtain ⟨x, hx⟩ : ∃ x, x = xs[k] := ⟨_, rfl⟩
   rw [← hx] at c1
   have HX := Lib.hid hx
   have HC := Lib.hid (HP.out wr HBL.out x (by rw [hx]; exact List.getElem_mem _))
   obtain ⟨b, hb⟩ : ∃ b, b = P x := ⟨_, rfl⟩
   rw [← hb] at HC
   have HB := Lib.hid hb
   clear hb hx
   go_wp2_with fail
   refine Calls.mono HC.out ?_
   rintro e w1 ⟨rfl, hb1⟩
   have HB1 := Lib.hid (HBL.out.trans (hb1.mono HBL.out.size))
   clear hb1 c1
   cases b
   ·go_wp2_with fail
    go_roundw
    case rel => exact ⟨k + 1, by omega, by go_num, HB1.out, fun j h hj => by
     by_cases e : j = k
     ·subst e; rw [← HX.out]; exact HB.out.symm
     ·exact HA.out j h (by omega)⟩
    case measure => simp [intOf]; omega
   ·have HI : Hid (idxS P xs = (k : Int)) := by
     unfold Hid idxS
     have h1 : xs.findIdx P = k := by
      rw [List.findIdx_eq hlt]
      exact ⟨by rw [← HX.out]; exact HB.out.symm, fun j hj => HA.out j (by omega) hj⟩
     rw [h1, if_pos hlt]
    go_wp2_with fail
    go_ret
    exact ⟨ret_int HI.out.symm, HB1.out⟩
  ·clear hbl
   have HI : Hid (idxS P xs = -1) := by
    unfold Hid
    rw [idxS_neg]
    intro x hx
    obtain ⟨j, hj, rfl⟩ := List.mem_iff_getElem.1 hx
    exact HA.out j hj (by omega)
   go_wp2_with fail
   go_ret
   exact ⟨ret_int HI.out.symm, HBL.out⟩

end Go.Proofs.YtodojigmhlkpeaaGreatDoor

namespace Go.Proofs.YtodojigmhlkpeaaGreatDoor
open Go Go.RowKit

set_option maxRecDepth 100000 in
set_option maxHeartbeats 2000000 in
theorem DeleteFuncS (B : Nat) (v : Value) (xs : List ByteArray) (fid : Nat) (caps : Array Value) (P : ByteArray → Bool) (w0 w : World) (ho : w.ownsRow B 9 1 v xs.length (xs.map Value.string)) (hb : Below B w0 w) (hB : B ≤ w.heap.size)
  (eg : ∀ args w, (callFunc fid args).run Tryz.prog w = .ok (.enter fid args) w) (hP : AskS fid caps P xs B w0) :
  Calls Tryz.prog 87 #[v, .func (.func fid) #[] caps] w fun e w' => ∃ v', e = .returned v' ∧ Below B w0 w' ∧ w'.ownsRow B 9 1 v' (xs.filter fun x => !P x).length ((xs.filter fun x => !P x).map Value.string) := by
 have HP := Lib.hid hP
 have HB := Lib.hid hb
 have HO := Lib.hid ho
 have HIX := Lib.hid (IndexFuncS B v xs fid caps P w (SliceK.of_owns (e := 9) encS_len rfl (by rw [flat_encS]; exact ho)) eg fun w' hb' x hx => hP w' (hb.trans (hb'.mono hB)) x hx)
 have HHB := Lib.hid hB
 obtain ⟨a, c, rfl, hnc, hcc⟩ := owns_slice ho
 obtain ⟨r, hr⟩ : ∃ r, r = idxS P xs := ⟨_, rfl⟩
 rw [← hr] at HIX
 have HRI := Lib.hid hr
 obtain ⟨nx, hnx⟩ : ∃ nx, nx = xs.length := ⟨_, rfl⟩
 have HNX := Lib.hid hnx
 rw [← hnx] at HIX hnc ⊢
 clear hP hb ho hB hr hnx
 by_cases hneg : r = -1
 ·subst hneg
  have HF : Hid ((xs.filter fun x => !P x) = xs) := by
   unfold Hid
   rw [List.filter_eq_self]
   intro x hx
   rw [idxS_neg.1 HRI.out.symm x hx]
   rfl
  go_enter Tryz.func87, Tryz.ntmps87
  go_wp2_with fail
  refine Calls.mono HIX.out ?_
  rintro e w1 ⟨rfl, hb1⟩
  have HB1 := Lib.hid (HB.out.trans (hb1.mono HHB.out))
  have HO1 := Lib.hid (owns_below HO.out hb1)
  clear hb1 HIX
  go_wp2_with fail
  go_ret
  refine ⟨_, rfl, HB1.out, ?_⟩
  rw [HF.out, ← HNX.out]
  have h := HO1.out
  rw [← HNX.out] at h
  exact h
 ·obtain ⟨k0, hk0, hlt0, hp0, hpl⟩ : ∃ k0 : Nat, r = (k0 : Int) ∧ k0 < nx ∧ (∃ h : k0 < xs.length, P xs[k0] = true) ∧ ∀ j (h : j < xs.length), j < k0 → P xs[j] = false := by
   have h1 := HRI.out
   have h2 := HNX.out
   unfold idxS at h1
   by_cases hf : xs.findIdx P < xs.length
   ·rw [if_pos hf] at h1
    refine ⟨xs.findIdx P, h1, by omega, ⟨hf, List.findIdx_getElem (w := hf)⟩, fun j hj hjk => ?_⟩
    have := List.not_of_lt_findIdx hjk
    simpa using this
   ·rw [if_neg hf] at h1
    exact absurd h1 hneg
  subst hk0
  obtain ⟨g, ha2, hgB⟩ : ∃ g, a = some ⟨g, 0, none⟩ ∧ B ≤ g := by
   rcases HO.out.2 with ⟨e, e2⟩ | ⟨g, cap, cur, e, h1, -⟩
   ·have := HNX.out; omega
   ·simp only [Value.slice.injEq] at e
    exact ⟨g, e.1, h1⟩
  subst ha2
  have HGB := Lib.hid hgB
  have HIN : Hid (KeptIn P xs k0 (k0 + 1) (fun x => (Value.string x))  (xs.map Value.string)) := KeptIn.start (by have := HNX.out; omega) hpl hp0.2
  have hne1 : ((k0 : Int) == -1) = false := beq_eq_false_iff_ne.2 (by omega)
  clear hneg hp0 hpl HRI
  go_enter Tryz.func87, Tryz.ntmps87
  go_wp2_with fail
  refine Calls.mono HIX.out ?_
  rintro e w1 ⟨rfl, hb1⟩
  have HB1 := Lib.hid (HB.out.trans (hb1.mono HHB.out))
  have HO1 : Hid (CellsAt w1 g 9 nx c (xs.map Value.string)) := CellsAt.of_owns (by have h := owns_below HO.out hb1; rw [← HNX.out] at h; exact h)
  clear hb1 HIX
  go_wp2_with fail
  go_loopw [5, 6, 7] (fun s5 s6 _ wr => ∃ (i j : Nat) (cs : List Value), s5 = .int .i64 i ∧ s6 = .int .i64 j ∧ j ≤ nx ∧ Below B w0 wr ∧ CellsAt wr g 9 nx c cs ∧ KeptIn P xs i j (fun x => Value.string x) cs) (fun _ s6 _ _ => nx - (intOf s6).toNat)
  case atStart => exact ⟨k0, k0 + 1, _, rfl, by go_num, by omega, HB1.out, HO1.out, HIN.out⟩
  case round =>
   obtain ⟨i, j, cs, rfl, rfl, hj, hbl, hca, hki⟩ := hrel
   have HBL := Lib.hid hbl
   have HCA := Lib.hid hca
   have HKI := Lib.hid hki
   have hij := hki.lt
   by_cases hlt : j < nx
   ·have hltx : j < xs.length := by have := HNX.out; omega
    obtain ⟨x, hx⟩ : ∃ x, x = xs[j] := ⟨_, rfl⟩
    have HX := Lib.hid hx
    have cj : wr.cell? ⟨g, j, none⟩ = some (.string x) := by
     have h1 := hca.cell j (by omega)
     have h2 := hki.high j hltx (Nat.le_refl _)
     rw [h1, h2, hx]
    have ci := hca.cell_some i (by omega)
    obtain ⟨old, ci⟩ := ci
    have fi := hca.frozen i
    have hgl := hca.lt
    have HC := Lib.hid (HP.out wr hbl x (by rw [hx]; exact List.getElem_mem _))
    obtain ⟨b, hb⟩ : ∃ b, b = P x := ⟨_, rfl⟩
    rw [← hb] at HC
    have HBP := Lib.hid hb
    clear hb hx hbl hca hki ci fi
    go_wp2_with fail
    refine Calls.mono HC.out ?_
    rintro e w2 ⟨rfl, hb2⟩
    have HBL2 := Lib.hid (HBL.out.trans (hb2.mono (show B ≤ wr.heap.size from by have := HGB.out; omega)))
    have hca2 := HCA.out.below hb2
    have HCA2 := Lib.hid hca2
    obtain ⟨old, ci⟩ := hca2.cell_some i (by omega)
    have fi := hca2.frozen i
    clear hb2 hca2 cj
    cases b
    ·go_wp2_with fail
     go_roundw
     case rel => exact ⟨i + 1, j + 1, cs.set i (.string x), by go_num, by go_num, by omega, HBL2.out.setCell HGB.out _, HCA2.out.set i (by omega) _, by have h := HKI.out.keep hltx (by rw [← HX.out]; exact HBP.out.symm); rw [← HX.out] at h; exact h⟩
     case measure => simp [intOf]; omega
    ·go_wp2_with fail
     go_roundw
     case rel => exact ⟨i, j + 1, cs, rfl, by go_num, by omega, HBL2.out, HCA2.out, HKI.out.drop hltx (by rw [← HX.out]; exact HBP.out.symm)⟩
     case measure => simp [intOf]; omega
   ·obtain rfl : j = nx := by omega
    have HLEN : Hid ((xs.filter fun x => !P x).length = i ∧ i ≤ j ∧ (xs.filter fun x => !P x).map Value.string = cs.take i) := by
     have h := hki.all (by have := HNX.out; omega)
     exact ⟨h.1, by omega, h.2⟩
    have hij2 : i < j := hij
    have hcl : ∀ ty, (Builtin.clear_ #[22] ty #[.slice (some ⟨g, i, none⟩) (j - i) (c - i)]).run Tryz.prog wr = .ok (.tuple #[]) (wr.setCells g i (List.replicate (j - i) (.string ⟨#[]⟩))) :=
     fun ty => Lib.run_clear_slice wr _ _ ty _ Tryz.underlying22 (fun w => by kernel_rfl) rfl rfl g i _ _ (by omega) (fun t ht => by obtain ⟨o, ho⟩ := hca.cell_some (i + t) (by omega); rw [ho]; rfl) (fun t ht => hca.frozen (i + t))
    have HCAF : Hid (CellsAt (wr.setCells g i (List.replicate (j - i) (.string ⟨#[]⟩))) g 9 j c (cs.take i ++ List.replicate (j - i) (.string ⟨#[]⟩))) := hca.clear hij2
    have HBF : Hid (Below B w0 (wr.setCells g i (List.replicate (j - i) (.string ⟨#[]⟩)))) := below_setCells HGB.out _ _ _ hbl
    clear hbl hca hki hij
    go_wp2_with fail
    go_ret
    refine ⟨_, rfl, HBF.out, ?_⟩
    rw [HLEN.out.1, HLEN.out.2.2]
    exact HCAF.out.owns (by rw [List.take_append_of_le_length (by have := HCAF.out.len; simp at this ⊢; omega), List.take_take]; simp) HLEN.out.2.1 HGB.out hnc hcc

end Go.Proofs.YtodojigmhlkpeaaGreatDoor

namespace Go.Proofs.YtodojigmhlkpeaaGreatDoor
open Go Go.RowKit

set_option maxRecDepth 100000 in
set_option maxHeartbeats 2000000 in
theorem out_any (lo : Nat) (t : Lts) (lv ev : Value) (s : Int) (w : World) (hsmall : t.edges.length ≤ 1073741824) (he : SliceK 3 encE lo w ev t.edges) :
  Calls Tryz.prog 80 #[.agg #[.int .i64 t.states, .int .i64 t.initial, lv, ev], .int .i64 s] w (MadeOut t s w) := by
 obtain ⟨ae, ce, rfl, hen, hec, hrow⟩ := he
 obtain ⟨i0, hi, hz0, hz1, hz2⟩ := info_parts info_edge2
 have HB0 : Hid (Below w.heap.size w (w.alloc (.cells #[.int .i64 t.states, .int .i64 t.initial, lv, .slice ae t.edges.length ce] 29))) := (Below.refl _ _).alloc (Nat.le_refl _) _
 go_enter Tryz.func80, Tryz.ntmps80
 go_wp2_with fail
 go_loopw [5, 11] (fun v i wr => ∃ k : Nat, k ≤ t.edges.length ∧ i = .int .i64 k ∧ Below w.heap.size w wr ∧ wr.ownsRow w.heap.size 62 3 v ((t.edges.take k).filter fun e => e.src == s).length (((t.edges.take k).filter fun e => e.src == s).flatMap encE)) (fun _ i _ => t.edges.length - (intOf i).toNat)
 case atStart => exact ⟨0, Nat.zero_le _, rfl, HB0.out, World.ownsRow_nil _ _ _ _⟩
 case round =>
  obtain ⟨k, hk, rfl, hbl, ho⟩ := hrel
  have HBL := Lib.hid hbl
  have HO := Lib.hid ho
  have hsz := hbl.size
  have hfl : ((t.edges.take k).filter fun e => e.src == s).length ≤ k := Nat.le_trans (List.length_filter_le _ _) (List.length_take_le _ _)
  clear hbl ho
  by_cases hlt : k < t.edges.length
  ·obtain ⟨be, oe, rfl, -, hbe, e1, e2, e3⟩ := (hrow.below HBL.out).edge hlt
   clear hrow
   have HBA : Hid (Below w.heap.size w (wr.alloc (.cells #[.int .i64 t.edges[k].src, .int .i64 t.edges[k].lab, .int .i64 t.edges[k].dst] 62))) := HBL.out.alloc hsz _
   have HOA : Hid ((wr.alloc (.cells #[.int .i64 t.edges[k].src, .int .i64 t.edges[k].lab, .int .i64 t.edges[k].dst] 62)).ownsRow w.heap.size 62 3 u5 ((t.edges.take k).filter fun e => e.src == s).length (((t.edges.take k).filter fun e => e.src == s).flatMap encE)) := HO.out.alloc _
   cases g : (t.edges[k].src == s)
   ·have HL : Hid ((t.edges.take (k + 1)).filter (fun e => e.src == s) = (t.edges.take k).filter fun e => e.src == s) := by
     unfold Hid
     rw [List.take_succ_eq_append_getElem hlt, List.filter_append]
     simp [g]
    go_wp2_with fail
    go_roundw
    case rel => exact ⟨k + 1, by omega, by go_num, HBA.out, by rw [HL.out]; exact HOA.out⟩
    case measure => simp [intOf]; omega
   ·have HL : Hid ((t.edges.take (k + 1)).filter (fun e => e.src == s) = ((t.edges.take k).filter fun e => e.src == s) ++ [t.edges[k]]) := by
     unfold Hid
     rw [List.take_succ_eq_append_getElem hlt, List.filter_append]
     simp [g]
    generalize hfs : (t.edges.take k).filter (fun e => e.src == s) = fs at *
    have HFS := Lib.hid hfs
    clear hfs
    go_wp2_with (at_builtin; refine wpList_append_own _ rfl _ _ 27 rfl w.heap.size 62 i0 (.agg #[.int .i64 0, .int .i64 0, .int .i64 0]) 3 24 Tryz.underlying27 hi hz0 hz1 hz2 rfl (by decide) _ _ _ rfl (HOA.out.alloc _) ⟨wr.heap.size + 1, 0, none⟩ 1 1 (encE t.edges[k]) rfl rfl ?c1 ?c2 ?c3 ?c4 ?c5 ?_)
    case c1 => have := three_new (wr.alloc (.cells #[.int .i64 t.edges[k].src, .int .i64 t.edges[k].lab, .int .i64 t.edges[k].dst] 62)) t.edges[k] 62; simpa using this
    case c2 => intro u hu; simp [encE] at hu; rcases hu with rfl | rfl | rfl <;> rfl
    case c3 => simp [maxLen]; omega
    case c4 => omega
    case c5 => simp; omega
    intro v' w1 ho1 hg1 _
    have HO2 : Hid (w1.ownsRow w.heap.size 62 3 v' (fs ++ [t.edges[k]]).length ((fs ++ [t.edges[k]]).flatMap encE)) := by
     unfold Hid
     rw [List.length_append, List.flatMap_append, List.flatMap_singleton]
     exact ho1
    have HB2 : Hid (Below w.heap.size w w1) := (HBA.out.alloc (by simp; omega) _).grown hg1 (by simp; omega) (fun b e => (HO.out.lt b e).1)
    clear ho1 hg1
    go_wp2_with fail
    go_roundw
    case rel => exact ⟨k + 1, by omega, by go_num, HB2.out, by rw [HL.out]; exact HO2.out⟩
    case measure => simp [intOf]; omega
  ·clear hrow
   go_wp2_with fail
   go_ret
   obtain rfl : k = t.edges.length := by omega
   exact ⟨_, rfl, HBL.out, by unfold outOf; have := HO.out; rw [List.take_length] at this; exact this⟩

end Go.Proofs.YtodojigmhlkpeaaGreatDoor

namespace Go.Proofs.YtodojigmhlkpeaaGreatDoor
open Go Go.RowKit

theorem CloneS_own (lo : Nat) (v : Value) (xs : List ByteArray) (w : World) (hv : SliceK 1 encS lo w v xs) (hz : xs.length ≤ 1048576) :
  Calls Tryz.prog 88 #[v] w fun e w' => ∃ v', e = .returned v' ∧ w'.ownsRow w.heap.size 9 1 v' xs.length (xs.map Value.string) ∧ Below w.heap.size w w' := by
 obtain ⟨a, c, rfl, hn, hc, hrow⟩ := hv
 cases a with
 | none =>
  have h0 : xs.length = 0 := by
   rcases hrow with h | ⟨b, o, h, -⟩
   ·exact h
   ·cases h
  have hx : xs = [] := List.eq_nil_of_length_eq_zero h0
  subst hx
  refine (Tryz.slices_Clone_string_nil _ _ w).mono ?_
  rintro e w' ⟨rfl, rfl⟩
  exact ⟨_, rfl, World.ownsRow_nil _ _ _ _, Below.refl _ _⟩
 | some a =>
  rcases hrow with h0 | ⟨b, o, h, -, hb, hcell⟩
  ·have hx : xs = [] := List.eq_nil_of_length_eq_zero h0
   subst hx
   refine (Tryz.slices_Clone_string_zero a c w).mono ?_
   rintro e w' ⟨v', rfl, ho, -, hb⟩
   exact ⟨v', rfl, ho, hb⟩
  ·cases h
   refine (Tryz.slices_Clone_string b o xs.length c xs w (Nat.le_refl _) (by omega) (fun j hj => ?_)).mono ?_
   ·have := hcell j hj 0 (by omega)
    rw [List.getD_eq_getElem?_getD, List.getElem?_eq_getElem hj]
    simpa [encS] using this
   ·rintro e w' ⟨v', rfl, ho, -, hb2⟩
    rw [List.take_length] at ho
    exact ⟨v', rfl, ho, hb2⟩

end Go.Proofs.YtodojigmhlkpeaaGreatDoor
