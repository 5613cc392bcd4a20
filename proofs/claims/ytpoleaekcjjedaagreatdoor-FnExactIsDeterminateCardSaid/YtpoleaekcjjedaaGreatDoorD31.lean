/-
  The reference's l18Ways: for each state of the deterministic system the first trace that leads to it.
  The reference's IsDeterminate.
-/
import Derived.Test.YtpoleaekcjjedaaGreatDoorD30
import Derived.Test.YtpoleaekcjjedaaGreatDoorD19
import Derived.Test.YtpoleaekcjjedaaGreatDoorD9
import Derived.Test.YtpoleaekcjjedaaGreatDoorD7
import Derived.Test.YtpoleaekcjjedaaGreatDoorD29
import Derived.Test.YtpoleaekcjjedaaGreatDoorD18
import Derived.Test.YtpoleaekcjjedaaGreatDoorD17
namespace Go.Proofs.YtpoleaekcjjedaaGreatDoor
open Go Go.RowKit

theorem info_strW : (Tryz.prog.info? 9).map (fun i => (i.zero, i.size, i.bytes)) = some (some (.string ⟨#[]⟩), 1, 16) := by kernel_rfl
theorem info_strsW : (Tryz.prog.info? 22).map (fun i => (i.zero, i.size, i.bytes)) = some (some (.slice none 0 0), 1, 24) := by kernel_rfl
theorem info_intW : (Tryz.prog.info? 2).map (fun i => (i.zero, i.size, i.bytes)) = some (some (.int .i64 0), 1, 8) := by kernel_rfl

/-- The memory of the search: the order of the states, the traces. -/
structure OwnW (B : Nat) (w : World) (vo : Value) (G n : Nat) (vs : List Value) (L : List ByteArray) (N : List (List Nat)) : Prop where
  order : w.ownsRow B 2 1 vo N.length ((upI N.length).map (Value.int .i64))
  out : OwnStrss B w (.slice (some ⟨G, 0, none⟩) n n) vs (outW L n N)
  num : vs.length = n
theorem OwnW.below {B G n : Nat} {w w' : World} {vo : Value} {vs : List Value} {L : List ByteArray} {N : List (List Nat)} (h : OwnW B w vo G n vs L N) (hb : Below w.heap.size w w') : OwnW B w' vo G n vs L N := ⟨owns_below h.order hb, h.out.below hb, h.num⟩

set_option maxRecDepth 100000 in
set_option maxHeartbeats 8000000 in
theorem l18Ways_any (p lo : Nat) (t : Lts) (st : DNet) (w : World) (hv : Valid t) (hok : DOk t st) (hp : LtsPtr lo w p (dSys t st)) : Calls Tryz.prog 64 #[.pointer (some ⟨p, 0, none⟩)] w (MadeWays t st w) := by
  have HV := Lib.hid hv
  have HOK := Lib.hid hok
  have HP := Lib.hid hp
  have HDV := Lib.hid (dSys_valid hv hok)
  obtain ⟨n, hn⟩ : ∃ n, n = st.rows.length := ⟨_, rfl⟩
  obtain ⟨LL, hLL⟩ : ∃ LL, LL = t.labels.length := ⟨_, rfl⟩
  have hn1 : 1 ≤ n := by rw [hn]; exact (dok_good hv hok).some
  have hn40 : n ≤ 40 := by rw [hn]; exact hok.2.1
  have hLL1 : 1 ≤ LL := by rw [hLL]; exact hv.labels.pos
  have hLL12 : LL ≤ 12 := by rw [hLL]; exact hv.labels.most
  obtain ⟨lv, ev, hpl, q0, -, q2, -, hl, -⟩ := hp
  rw [show (dSys t st).states = (n : Int) from by rw [hn]; rfl] at q0
  rw [show (dSys t st).labels = t.labels from rfl] at hl
  obtain ⟨al, cl, rfl, hlc, hcc, hrow⟩ := hl
  rw [← hLL] at q2 hlc
  obtain ⟨bl, ol, rfl, hblw, hcl⟩ : ∃ bl ol, al = some ⟨bl, ol, none⟩ ∧ bl < w.heap.size ∧ ∀ i (h : i < t.labels.length), w.cell? ⟨bl, ol + i, none⟩ = some (.string t.labels[i]) := by
    rcases hrow with h | ⟨bl, ol, h1, -, h3, h4⟩
    · omega
    · exact ⟨bl, ol, h1, h3, fun i hi => by have := h4 i hi 0 (by omega); simpa [encS] using this⟩
  have HCL := Lib.hid hcl
  have HQ0 := Lib.hid q0
  have HQ2 := Lib.hid q2
  have HNN := Lib.hid hn
  have HLL := Lib.hid hLL
  have HW0 := Lib.hid (WaySt.start hv hok)
  obtain ⟨i1, hi1, hz10, hz11, hz12⟩ := info_parts info_intW
  obtain ⟨i2, hi2, hz20, hz21, hz22⟩ := info_parts info_strsW
  obtain ⟨i3, hi3, hz30, hz31, hz32⟩ := info_parts info_strW
  clear hv hok hrow hcl hn hLL q2
  go_enter Tryz.func64, Tryz.ntmps64
  go_wp2_with (at_make; refine wpList_make_full _ rfl _ _ 84 rfl w.heap.size 22 i2 _ 1 Tryz.underlying84 hi2 hz20 hz21 .i64 .i64 _ _ n rfl rfl rfl rfl ?_ ?_ ?_ ?_)
  · rw [hz22]; omega
  · simp [maxLen]; omega
  · exact Nat.le_refl _
  intro w1 ho hg
  rw [toList_madeCells_one] at ho
  obtain ⟨G, hG⟩ : ∃ G, G = w.heap.size := ⟨_, rfl⟩
  have hb1 : Below w.heap.size w w1 := (Below.refl _ w).grown hg (Nat.le_refl _) (fun _ h => by cases h)
  rw [← hG] at ho ⊢
  have hG1 : G ≤ w1.heap.size := by rw [hG]; exact hb1.size
  have HO1 : Hid (OwnW G (w1.alloc (.cells #[.int .i64 0] 2)) (.slice (some ⟨w1.heap.size, 0, none⟩) 1 1) G n (List.replicate n (.slice none 0 0)) t.labels [[]]) := by
    refine ⟨?_, ?_, by simp⟩
    · have := World.ownsRow_lit (base := G) (e := 2) (size := 1) w1 #[.int .i64 0] 1 hG1 (by decide) rfl
      exact this
    · rw [outW_start _ hn1]
      exact (ownStrss_nils ho).below ((Below.refl _ _).alloc (Nat.le_refl _) _)
  have HB1 : Hid (Below w.heap.size w (w1.alloc (.cells #[.int .i64 0] 2))) := hb1.alloc (by rw [← hG]; exact hG1) _
  have HG := Lib.hid hG
  clear ho hg hG hb1 q0
  go_wp2
  go_loopw [4, 5] (fun v4 v5 wr => ∃ (i : Nat) (N : List (List Nat)) (vs : List Value), v5 = .int .i64 i ∧ i ≤ N.length ∧ WaySt t st N i 0 ∧ Below w.heap.size w wr ∧ OwnW G wr v4 G n vs t.labels N) (fun _ v5 _ => 100 - (intOf v5).toNat)
  case atStart => exact ⟨0, [[]], _, rfl, by simp, HW0.out, HB1.out, HO1.out⟩
  case round =>
    clear HO1 HB1 HW0 hG1
    obtain ⟨i, N, vs, rfl, hiN, hws, hbl, how⟩ := hrel
    have HWS := Lib.hid hws
    have HBL := Lib.hid hbl
    have HOW := Lib.hid how
    obtain ⟨M, hM⟩ : ∃ M, M = N.length := ⟨_, rfl⟩
    have hMn : M ≤ n := by rw [hM, HNN.out]; exact hws.few
    obtain ⟨oa, oc, rfl, -, -⟩ := owns_slice how.order
    rw [← hM] at hiN ⊢
    have HM := Lib.hid hM
    clear hws how hM
    by_cases hlt : i < M
    · obtain ⟨u, hu⟩ : ∃ u, N[i]? = some u := ⟨N[i]'(by rw [← HM.out]; exact hlt), List.getElem?_eq_getElem _⟩
      have HU := Lib.hid hu
      clear hbl hu
      go_wp2
      go_loopw [4, 6] (fun v4 v6 wr => ∃ (k : Nat) (N : List (List Nat)) (vs : List Value), v6 = .int .i64 k ∧ 1 ≤ k ∧ k ≤ LL ∧ i < N.length ∧ N[i]? = some u ∧ WaySt t st N i (k - 1) ∧ Below w.heap.size w wr ∧ OwnW G wr v4 G n vs t.labels N) (fun _ v6 _ => LL - (intOf v6).toNat)
      case atStart => exact ⟨1, N, vs, rfl, Nat.le_refl _, hLL1, by rw [← HM.out]; exact hlt, HU.out, HWS.out, HBL.out, by have h := HOW.out; rw [← HM.out] at h; exact h⟩
      case round =>
        clear HWS HBL HOW HM HU
        obtain ⟨k, N, vs, rfl, hk1, hkL, hiN2, hu, hws, hbl, how⟩ := hrel
        obtain ⟨wC, rfl⟩ : ∃ wC : World, wC = wr := ⟨_, rfl⟩
        have HU := Lib.hid hu
        have HWS := Lib.hid hws
        have HBL := Lib.hid hbl
        have HOW := Lib.hid how
        have hszC : w.heap.size ≤ wC.heap.size := hbl.size
        obtain ⟨M2, hM2⟩ : ∃ M2, M2 = N.length := ⟨_, rfl⟩
        have hMn2 : M2 ≤ n := by rw [hM2, HNN.out]; exact hws.few
        have hord := how.order
        rw [← hM2] at hord hiN2
        obtain ⟨oa2, oc2, hv4, -, -⟩ := owns_slice hord
        subst hv4
        obtain ⟨ob, hoa2, hobG, hobw⟩ : ∃ ob, oa2 = some ⟨ob, 0, none⟩ ∧ G ≤ ob ∧ ob < wC.heap.size := by
          rcases hord.2 with ⟨h1, h0⟩ | ⟨g, cap, cur, h1, h2, hg, -⟩
          · omega
          · simp only [Value.slice.injEq, true_and] at h1
            exact ⟨g, h1.1, h2, (Array.getElem?_eq_some_iff.1 hg).1⟩
        subst hoa2
        have q2 := keeps hbl hpl HQ2.out
        have HM2 := Lib.hid hM2
        by_cases hltk : k < LL
        · have hkL2 : k < t.labels.length := by rw [← HLL.out]; exact hltk
          have co := hord.cellAt i (by omega)
          rw [List.getElem?_map, upI_get hiN2, Option.map_some] at co
          have cl := keeps hbl hblw (HCL.out k hkL2)
          obtain ⟨l, hl⟩ : ∃ l, l = t.labels[k] := ⟨_, rfl⟩
          rw [← hl] at cl
          have hlk : labK t.labels (k - 1) = l := by
            unfold labK
            rw [show k - 1 + 1 = k from by omega, List.getD_eq_getElem?_getD, List.getElem?_eq_getElem hkL2, hl]
            rfl
          have HLK := Lib.hid hlk
          obtain ⟨gv, hgv⟩ : ∃ gv, gv = goTo (dSys t st) (i : Int) l := ⟨_, rfl⟩
          have HGO : Hid (∀ w', Below wC.heap.size wC w' → Calls Tryz.prog 72 #[.pointer (some ⟨p, 0, none⟩), .int .i64 i, .string l] w' fun e w'' => e = .returned (.int .i64 gv) ∧ Below w'.heap.size w' w'') := fun w' hb => by rw [hgv]; exact l12Go_any p _ (dSys t st) i l w' HDV.out.edge ((HP.out.below hbl).below hb)
          have HGV : Hid (gv = goTo (dSys t st) (i : Int) (labK t.labels (k - 1))) := by unfold Hid; rw [hlk]; exact hgv
          have hgr : gv < (n : Int) := by
            have h := (goTo_range HDV.out (i : Int) l).2
            rw [← hgv] at h
            have h2 : (dSys t st).states = (n : Int) := by rw [HNN.out]; rfl
            omega
          have lco := later_cell hobw co
          have lcl := later_cell (show bl < wC.heap.size by omega) cl
          have lq2 := later_cell (show p < wC.heap.size by omega) q2
          have HCL2 := Lib.hid cl
          have HCO := Lib.hid co
          have HQ2C := Lib.hid q2
          have hplC : p < wC.heap.size := by omega
          have hblC : bl < wC.heap.size := by omega
          clear hu hws hbl how hM2 hord co cl hl hlk hgv
          by_cases hneg : gv < 0
          · have HNX : Hid (WaySt t st N i (k - 1 + 1)) := HWS.out.pass HV.out HOK.out HU.out (by omega) (.inl (by rw [← HGV.out]; exact hneg))
            go_wp2
            refine wp_region_later (by kernel_rfl) (by kernel_rfl) ?_
            repeat (go_big_quiet_step ((go_at_call 72; exact later_call (HGO.out _ (Later.h _)))))
            refine wpQuiet_nil ?_
            intro _ hw9
            obtain ⟨nl, hw8⟩ := hw9
            subst hw8
            have HBN := Lib.hid (HBL.out.trans (nl.h.mono hszC))
            have HON := Lib.hid (HOW.out.below nl.h)
            clear lco lcl lq2
            go_wp2
            go_roundw
            case rel => exact ⟨k + 1, N, vs, by go_num, by omega, by omega, by rw [← HM2.out]; exact hiN2, HU.out, by have h := HNX.out; rw [show k - 1 + 1 = k + 1 - 1 from by omega] at h; exact h, HBN.out, HON.out⟩
            case measure => simp [intOf]; omega
          · have HPL : Hid (∀ w', Below wC.heap.size wC w' → Calls Tryz.prog 119 #[.slice (some ⟨ob, 0, none⟩) M2 oc2, .int .i64 gv] w' fun e w'' => e = .returned (.int .i64 (if gv < (M2 : Int) then gv else -1)) ∧ Below w'.heap.size w' w'') := fun w' hb => by
              have hs : SliceK 1 encI G w' (.slice (some ⟨ob, 0, none⟩) M2 oc2) (upI M2) := SliceK.of_owns (e := 2) encI_len (upI_len M2).symm (by rw [flat_encI]; have h := owns_below HOW.out.order hb; rw [← HM2.out] at h; exact h)
              have h := l11Place_any G _ (upI M2) gv w' hs
              rw [placeI_up (by omega)] at h
              exact h
            by_cases hold : gv < (M2 : Int)
            · rw [if_pos hold] at HPL
              have HNX : Hid (WaySt t st N i (k - 1 + 1)) := HWS.out.pass HV.out HOK.out HU.out (by omega) (.inr ⟨gv.toNat, by rw [← HM2.out]; omega, by rw [← HGV.out]; omega⟩)
              have hge : decide (0 ≤ gv) = true := decide_eq_true (by omega)
              go_wp2
              refine wp_region_later (by kernel_rfl) (by kernel_rfl) ?_
              repeat (go_big_quiet_step ((go_at_call 72; exact later_call (HGO.out _ (Later.h _)))))
              refine wpQuiet_nil ?_
              intro _ hw9
              obtain ⟨nl, hw8⟩ := hw9
              subst hw8
              have HBN := Lib.hid (HBL.out.trans (nl.h.mono hszC))
              have HON := Lib.hid (HOW.out.below nl.h)
              have HPN := Lib.hid (HPL.out nl.w nl.h)
              clear lco lcl lq2
              go_wp2_with fail
              refine Calls.mono HPN.out ?_
              rintro e w6 ⟨rfl, hb6⟩
              have HB6 := Lib.hid (HBN.out.trans (hb6.mono HBN.out.size))
              have HO6 := Lib.hid (HON.out.below hb6)
              clear hb6 HPN
              go_wp2
              go_roundw
              case rel => exact ⟨k + 1, N, vs, by go_num, by omega, by omega, by rw [← HM2.out]; exact hiN2, HU.out, by have h := HNX.out; rw [show k - 1 + 1 = k + 1 - 1 from by omega] at h; exact h, HB6.out, HO6.out⟩
              case measure => simp [intOf]; omega
            · rw [if_neg hold] at HPL
              obtain ⟨hgm, hmeet⟩ := HWS.out.meet HV.out HOK.out HU.out (show k - 1 + 1 < t.labels.length by omega) (by rw [← HGV.out]; exact hneg) (fun j hj e => hold (by rw [HGV.out, e, HM2.out]; omega))
              rw [← HGV.out, ← HM2.out] at hgm
              subst hgm
              have HNX := Lib.hid hmeet
              have hM2n : M2 < n := by omega
              clear hmeet hneg hold
              go_wp2
              refine wp_region_later (by kernel_rfl) (by kernel_rfl) ?_
              repeat (go_big_quiet_step ((go_at_call 72; exact later_call (HGO.out _ (Later.h _)))))
              refine wpQuiet_nil ?_
              intro _ hw9
              obtain ⟨nl, hw8⟩ := hw9
              subst hw8
              have HBN := Lib.hid (HBL.out.trans (nl.h.mono hszC))
              have HON := Lib.hid (HOW.out.below nl.h)
              have HPN := Lib.hid (HPL.out nl.w nl.h)
              have HNL := Lib.hid nl.h
              clear lco lcl lq2
              go_wp2_with fail
              refine Calls.mono HPN.out ?_
              rintro e w6 ⟨rfl, hb6⟩
              have HB6 := Lib.hid (HBN.out.trans (hb6.mono HBN.out.size))
              have HO6 := Lib.hid (HON.out.below hb6)
              have HC6 := Lib.hid (HNL.out.trans (hb6.mono HNL.out.size))
              have hs6 := HB6.out.size
              have hs6C := HC6.out.size
              clear hb6 HPN HON HBN HNL
              -- the order grows
              have HRO : Hid (w6.ownsRow G 2 1 (.slice (some ⟨ob, 0, none⟩) M2 oc2) M2 ((upI M2).map (Value.int .i64))) := by have h := HO6.out.order; rw [← HM2.out] at h; exact h
              go_wp2_with (at_builtin; refine wpList_append_own _ rfl _ _ 83 rfl G 2 i1 (.int .i64 0) 1 8 Tryz.underlying83 hi1 hz10 hz11 hz12 rfl (by decide) _ M2 _ rfl (HRO.out.alloc _) ⟨w6.heap.size, 0, none⟩ 1 1 [.int .i64 M2] rfl rfl ?c1 ?c2 ?c3 ?c4 ?c5 ?_)
              case c1 => exact World.news_of_block (cs := #[.int .i64 M2]) (t := 2) (fr := (0, 0)) (heap_alloc_new _ _)
              case c2 => intro u hu; simp at hu; subst hu; rfl
              case c3 => simp [maxLen]; omega
              case c4 => omega
              case c5 => have := HG.out; simp; omega
              intro v7 w7 ho7 hg7 _
              obtain ⟨va7, vc7, rfl, -, -⟩ := owns_slice ho7
              have HB7 : Hid (Below w.heap.size w w7) := (HB6.out.alloc hs6 _).grown hg7 (by simp; omega) (fun b e => by have := (HRO.out.lt b e).1; have := HG.out; omega)
              have hs7 := HB7.out.size
              have HS7 : Hid (OwnStrss G w7 (.slice (some ⟨G, 0, none⟩) n n) vs (outW t.labels n N)) := by
                have h := HO6.out.out.below (w' := w6.alloc (.cells #[.int .i64 M2] 2)) ((Below.refl _ _).alloc (Nat.le_refl _) _)
                exact ⟨h.out.kept hg7 (own_types h.out (HRO.out.alloc _) (by decide)), h.rows.other (by decide) (HRO.out.alloc _) hg7⟩
              have HR7 : Hid (w7.ownsRow G 2 1 (.slice va7 (M2 + 1) vc7) (M2 + 1) ((upI (M2 + 1)).map (Value.int .i64))) := by
                unfold Hid; rw [upI_succ, List.map_append]; exact ho7
              obtain ⟨ob7, hoa7, hobw7⟩ : ∃ ob7, va7 = some ⟨ob7, 0, none⟩ ∧ ob7 < w7.heap.size := by
                rcases HR7.out.2 with ⟨h1, h0⟩ | ⟨g, cap, cur, h1, h2, hg, -⟩
                · omega
                · simp only [Value.slice.injEq, true_and] at h1
                  exact ⟨g, h1.1, (Array.getElem?_eq_some_iff.1 hg).1⟩
              subst hoa7
              have c7 := HR7.out.cellAt i (by omega)
              rw [List.getElem?_map, upI_get (show i < M2 + 1 by omega), Option.map_some] at c7
              have hvl := HO6.out.num
              have hiv : i < vs.length := by omega
              have hso := HS7.out.out
              rw [hvl] at hso
              have c8 := hso.cellAt i (by omega)
              clear hso
              rw [List.getElem?_eq_getElem hiv] at c8
              have hiw : i < (outW t.labels n N).length := by rw [outW_len (by rw [← HM2.out]; exact hMn2)]; omega
              have hrw := HS7.out.rowAt i hiv hiw
              have hwi : (outW t.labels n N)[i] = txtsOf t.labels u := by
                have h := outW_get (L := t.labels) (n := n) HU.out
                rw [List.getElem?_eq_getElem hiw] at h
                exact Option.some.inj h
              rw [hwi] at hrw
              have hslen : (txtsOf t.labels u).length ≤ 40 := by
                have h := HWS.out.short i u HU.out
                simp only [txtsOf, List.length_map, List.length_reverse]
                omega
              obtain ⟨tr, htr⟩ : ∃ tr, tr = txtsOf t.labels u := ⟨_, rfl⟩
              obtain ⟨rv, hrv⟩ : ∃ rv, rv = vs[i] := ⟨_, rfl⟩
              rw [← htr] at hrw hslen
              rw [← hrv] at hrw c8
              obtain ⟨ra, rc, rfl, -, -⟩ := owns_slice hrw
              obtain ⟨TL, hTL⟩ : ∃ TL, TL = tr.length := ⟨_, rfl⟩
              rw [← hTL] at c8 hslen
              have HTL := Lib.hid hTL
              have HTR := Lib.hid htr
              have HVL := Lib.hid hvl
              have hGw7 : G < w7.heap.size := (HS7.out.out.lt G rfl).2
              -- the new trace
              have b8 : Below w7.heap.size w7 (w7.alloc (.cells #[] 9)) := (Below.refl _ _).alloc (Nat.le_refl _) _
              have c7' := keeps b8 hobw7 c7
              have c8' := keeps b8 hGw7 c8
              have HSR : Hid (SrcS (w7.alloc (.cells #[] 9)) (.slice ra TL rc) tr) := by
                have h : SrcS w7 (.slice ra TL rc) tr := SrcS.of_own (base := G) (e := 9) (by rw [HTL.out]; exact hrw)
                exact h.below b8
              have HE0 : Hid ((w7.alloc (.cells #[] 9)).ownsRow w7.heap.size 9 1 (.slice (some ⟨w7.heap.size, 0, none⟩) 0 0) 0 []) := World.ownsRow_lit (base := w7.heap.size) (e := 9) (size := 1) w7 #[] 0 (Nat.le_refl _) (by decide) rfl
              clear ho7 hg7 hvl hrw hrv hwi hTL htr hiw c7 c8 b8
              go_wp2_with (at_builtin; refine append_src rfl _ _ 22 rfl w7.heap.size 9 i3 (.string ⟨#[]⟩) 16 Tryz.underlying22 hi3 hz30 hz31 hz32 rfl _ 0 _ rfl HE0.out tr HSR.out ?d3 ?d4 ?d5 ?_)
              case d3 => rw [← HTL.out]; simp [maxLen]; omega
              case d4 => rw [← HTL.out]; omega
              case d5 => simp
              intro v9 w9 ho9 hg9
              have HB9 : Hid (Below w7.heap.size w7 w9) := ((Below.refl _ w7).alloc (Nat.le_refl _) _).grown hg9 (by simp) (fun b e => by cases e; exact Nat.le_refl _)
              obtain ⟨va9, vc9, rfl, -, -⟩ := owns_slice ho9
              have HO9 : Hid (w9.ownsRow w7.heap.size 9 1 (.slice va9 TL vc9) TL (txts tr)) := by unfold Hid; rw [HTL.out]; exact ho9
              rw [← HTL.out]
              have hs9 := HB9.out.size
              have q29 := keeps HB9.out (show p < w7.heap.size by omega) (keeps HB7.out hpl HQ2.out)
              have cl9 := keeps HB9.out (show bl < w7.heap.size by omega) (keeps HB7.out hblw (HCL.out k hkL2))
              clear ho9 hg9 c7' c8'
              obtain ⟨l2, hl2⟩ : ∃ l2, l2 = t.labels[k] := ⟨_, rfl⟩
              rw [← hl2] at cl9
              have HL2 := Lib.hid hl2
              clear hl2
              go_wp2_with (at_builtin; refine wpList_append_own _ rfl _ _ 22 rfl w7.heap.size 9 i3 (.string ⟨#[]⟩) 1 16 Tryz.underlying22 hi3 hz30 hz31 hz32 rfl (by decide) _ TL _ rfl (HO9.out.alloc _) ⟨w9.heap.size, 0, none⟩ 1 1 [.string l2] rfl rfl ?e1 ?e2 ?e3 ?e4 ?e5 ?_)
              case e1 => exact World.news_of_block (cs := #[.string l2]) (t := 9) (fr := (0, 0)) (heap_alloc_new _ _)
              case e2 => intro u hu; simp at hu; subst hu; rfl
              case e3 => simp [maxLen]; omega
              case e4 => omega
              case e5 => simp; omega
              intro v10 w10 ho10 hg10 _
              obtain ⟨va10, vc10, rfl, -, -⟩ := owns_slice ho10
              have HB10 : Hid (Below w7.heap.size w7 w10) := (HB9.out.alloc hs9 _).grown hg10 (by simp; omega) (fun b e => (HO9.out.lt b e).1)
              have HO10 : Hid (w10.ownsRow w7.heap.size 9 1 (.slice va10 (TL + 1) vc10) (TL + 1) (txts (tr ++ [l2]))) := by
                unfold Hid txts; rw [List.map_append]; exact ho10
              have HSN : Hid (OwnW G (w10.setCell ⟨G, M2, none⟩ (.slice va10 (TL + 1) vc10)) (.slice (some ⟨ob7, 0, none⟩) (M2 + 1) vc7) G n (vs.set M2 (.slice va10 (TL + 1) vc10)) t.labels (N ++ [(k - 1) :: u])) := by
                have h1 := ownStrss_setRow HS7.out (j := M2) HVL.out.symm (Nat.le_refl _) HB10.out (ys := tr ++ [l2]) (by rw [List.length_append, ← HTL.out]; exact HO10.out) (Nat.le_of_lt hGw7) hM2n
                have h2 := owns_below HR7.out HB10.out
                have h3 := owns_below HS7.out.out HB10.out
                refine ⟨?_, ?_, by rw [List.length_set]; exact HVL.out⟩
                · rw [List.length_append, List.length_singleton, ← HM2.out]
                  exact h2.kept (grown_setCell w10 ⟨G, M2, none⟩ _) (own_types h2 h3 (by decide))
                · have e1 : (outW t.labels n N).set M2 (tr ++ [l2]) = outW t.labels n (N ++ [(k - 1) :: u]) := by
                    have h := outW_set (L := t.labels) (N := N) (n := n) (by rw [← HM2.out]; exact hM2n) ((k - 1) :: u)
                    have hlk2 : labK t.labels (k - 1) = l2 := by
                      unfold labK
                      rw [show k - 1 + 1 = k from by omega, List.getD_eq_getElem?_getD, List.getElem?_eq_getElem hkL2, HL2.out]
                      rfl
                    rw [← HM2.out, txtsOf_cons, ← HTR.out, hlk2] at h
                    exact h
                  rw [e1] at h1
                  exact h1
              have HBS : Hid (Below w.heap.size w (w10.setCell ⟨G, M2, none⟩ (.slice va10 (TL + 1) vc10))) := (HB7.out.trans (HB10.out.mono hs7)).setCell (by rw [← HG.out]; exact Nat.le_refl _) _
              have ccG : ∃ u0, w10.cell? ⟨G, M2, none⟩ = some u0 := by
                have h := owns_below HS7.out.out HB10.out
                rw [HVL.out] at h
                exact own_cell h M2 (by omega)
              obtain ⟨u0, ccG⟩ := ccG
              have cfG : w10.frozen? ⟨G, M2, none⟩ = false := by
                have h := owns_below HS7.out.out HB10.out
                rw [HVL.out] at h
                exact h.frozenAt M2
              clear ho10 hg10 q29 cl9
              go_wp2
              go_roundw
              case rel => exact ⟨k + 1, N ++ [(k - 1) :: u], _, by go_num, by omega, by omega, by rw [List.length_append, ← HM2.out]; omega, by rw [List.getElem?_append_left (by rw [← HM2.out]; exact hiN2)]; exact HU.out, by have h := HNX.out; rw [show k - 1 + 1 = k + 1 - 1 from by omega] at h; exact h, HBS.out, HSN.out⟩
              case measure => simp [intOf]; omega
        · obtain rfl : k = LL := by omega
          have HNX : Hid (WaySt t st N (i + 1) 0) := by
            have h := HWS.out
            rw [show k - 1 = t.labels.length - 1 from by rw [← HLL.out]] at h
            exact h.next HOK.out (by rw [← HM2.out]; exact hiN2)
          clear hu hws hbl how hM2 hord
          go_wp2
          go_roundw
          case rel => exact ⟨i + 1, N, vs, by go_num, by rw [← HM2.out]; exact hiN2, HNX.out, HBL.out, HOW.out⟩
          case measure => simp [intOf]; omega
    · have HALL : Hid (WaysAll t st N) := HWS.out.all HOK.out (by rw [← HM.out]; exact hlt)
      have HF : Hid (OwnStrss G wr (.slice (some ⟨G, 0, none⟩) n n) vs (N.map (txtsOf t.labels))) := by
        have h := HOW.out.out
        rw [outW_all (by rw [HALL.out.1, HNN.out])] at h
        exact h
      clear hbl HOW
      go_wp2
      go_ret
      exact ⟨_, vs, N, rfl, HBL.out, HALL.out, by rw [← HG.out]; exact HF.out⟩

end Go.Proofs.YtpoleaekcjjedaaGreatDoor

namespace Go.Proofs.YtpoleaekcjjedaaGreatDoor
open Go Go.RowKit

set_option maxRecDepth 100000 in
set_option maxHeartbeats 8000000 in
theorem specIsDeterminate_any (lo : Nat) (t : Lts) (lv ev : Value) (w : World) (hsh : Short t.labels) (hl : SliceK 1 encS lo w lv t.labels) (he : SliceK 3 encE lo w ev t.edges) :
    Calls Tryz.prog 25 #[.agg #[.int .i64 t.states, .int .i64 t.initial, lv, ev]] w (RetDt t w) := by
  obtain ⟨W, hW⟩ : ∃ W, W = w.alloc (.cells #[.int .i64 t.states, .int .i64 t.initial, lv, ev] 31) := ⟨_, rfl⟩
  obtain ⟨p, hp⟩ : ∃ p, p = w.heap.size := ⟨_, rfl⟩
  have hB0 : Below w.heap.size w W := by rw [hW]; exact (Below.refl _ _).alloc (Nat.le_refl _) _
  have e1 : Blk W p [.int .i64 t.states, .int .i64 t.initial, lv, ev] 31 := by rw [hW, hp]; exact Blk.new w _ _
  have HP : Hid (LtsPtr lo W p t) := ⟨lv, ev, e1.lt, e1.cell 0 rfl, e1.cell 1 rfl, e1.cell 2 rfl, e1.cell 3 rfl, hl.below hB0, he.below hB0⟩
  have HX := Lib.hid e1
  have HB0 := Lib.hid hB0
  have HW := Lib.hid hW
  have HPP := Lib.hid hp
  have HSH := Lib.hid hsh
  clear hsh hl he hB0 hW e1 hp
  by_cases hv : Valid t
  · have HV := Lib.hid hv
    have hst0 := hv.st0
    have hst1 := hv.st1
    clear hv
    go_enter Tryz.func25, Tryz.ntmps25
    go_wp2_with fail
    rw [← HW.out]
    try rw [← HPP.out]
    refine (Decides.yes (l11Is_any p lo t W HSH.out HP.out) HV.out).mono ?_
    rintro e w1 ⟨rfl, hb1⟩
    have HB1 := Lib.hid hb1
    clear hb1
    go_wp2_with fail
    refine Calls.mono (l12Sets_any p lo t _ HV.out (HP.out.below HB1.out)) ?_
    rintro e w3 ⟨hb3, ⟨hfull, rfl⟩ | ⟨st, lv2, vr, ve, hok, rfl, ⟨⟨vs, hrows⟩, hed⟩, hown⟩⟩
    · have HB3 := Lib.hid (HB0.out.trans ((HB1.out.trans (hb3.mono HB1.out.size)).mono HB0.out.size))
      have HF := Lib.hid hfull
      clear hb3 hfull
      go_wp2
      ((try simp only [Exit.inBlock, Exit.then]); refine bodyPost_ret (results_tmp4 rfl _ _ _) rfl ?_)
      exact dt_none (HB3.out.alloc HB3.out.size _) (.inr (.inl ⟨HV.out, HF.out, rfl, rfl, rfl, rfl⟩))
    · have HB3 := Lib.hid (HB1.out.trans (hb3.mono HB1.out.size))
      have HOK := Lib.hid hok
      have HGD := Lib.hid (dok_good HV.out hok)
      obtain ⟨al, cl, rfl, -, -⟩ := owns_slice hown
      obtain ⟨ae, ce, rfl, -, -⟩ := owns_slice hed
      obtain ⟨av, cv, rfl, -, -⟩ := owns_slice hrows.2.1
      obtain ⟨R, hR⟩ : ∃ R, R = st.rows.length := ⟨_, rfl⟩
      obtain ⟨LN, hLN⟩ : ∃ LN, LN = t.labels.length := ⟨_, rfl⟩
      obtain ⟨EN, hEN⟩ : ∃ EN, EN = st.edges.length := ⟨_, rfl⟩
      have hvr : vs.length = R := by rw [hR]; exact hrows.1
      have hR40 : R ≤ 40 := by rw [hR]; exact hok.2.1
      obtain ⟨N, hN⟩ : ∃ N : Nat, (N : Int) = t.states := ⟨t.states.toNat, by omega⟩
      rw [hvr] at hrows ⊢
      rw [← hLN] at hown
      rw [← hEN] at hed
      rw [← hR, ← hLN, ← hEN]
      obtain ⟨W4, hW4⟩ : ∃ W4, W4 = w3.alloc (.cells #[.int .i64 R, .int .i64 0, .slice al LN cl, .slice ae EN ce] 31) := ⟨_, rfl⟩
      obtain ⟨q, hq⟩ : ∃ q, q = w3.heap.size := ⟨_, rfl⟩
      have hb4 : Below w3.heap.size w3 W4 := by rw [hW4]; exact (Below.refl _ _).alloc (Nat.le_refl _) _
      have e4 : Blk W4 q [.int .i64 R, .int .i64 0, .slice al LN cl, .slice ae EN ce] 31 := by rw [hW4, hq]; exact Blk.new w3 _ _
      have HPD : Hid (LtsPtr w1.heap.size W4 q (dSys t st)) := by
        refine ⟨_, _, e4.lt, ?_, e4.cell 1 rfl, e4.cell 2 rfl, e4.cell 3 rfl, ?_, ?_⟩
        · have h := e4.cell 0 rfl; rw [hR] at h; exact h
        · exact SliceK.of_owns (e := 9) encS_len hLN (by rw [flat_encS]; exact owns_below hown hb4)
        · exact SliceK.of_owns (e := 135) encE_len hEN (owns_below hed hb4)
      have HB4 := Lib.hid (HB3.out.trans (hb4.mono HB3.out.size))
      have HRW := Lib.hid (OwnIntss.below hrows hb4)
      have HX4 := Lib.hid (HX.out.below (HB3.out.trans (hb4.mono HB3.out.size)))
      have x0 := HX4.out.cell 0 rfl
      have hxl := HX4.out.lt
      have HW4 := Lib.hid hW4
      have HQ := Lib.hid hq
      have HR := Lib.hid hR
      have HN := Lib.hid hN
      rw [← hN] at x0
      rw [hW4] at x0 hxl
      have hLL12 : LN ≤ 12 := by rw [hLN]; exact HV.out.labels.most
      have hLL1 : 1 ≤ LN := by rw [hLN]; exact HV.out.labels.pos
      have HLN := Lib.hid hLN
      have HDE := Lib.hid (dSys_valid HV.out hok).edge
      obtain ⟨bl, hal, hblw⟩ : ∃ bl, al = some ⟨bl, 0, none⟩ ∧ bl < w3.heap.size := by
        rcases hown.2 with ⟨h1, h0⟩ | ⟨g, cap, cur, h1, h2, hg, -⟩
        · omega
        · simp only [Value.slice.injEq, true_and] at h1
          exact ⟨g, h1.1, (Array.getElem?_eq_some_iff.1 hg).1⟩
      subst hal
      have HCL : Hid (∀ k (h : k < t.labels.length), W4.cell? ⟨bl, k, none⟩ = some (.string t.labels[k])) := fun k hk => by
        have h := (owns_below hown hb4).cellAt k (by omega)
        rw [h, List.getElem?_map, List.getElem?_eq_getElem hk]
        rfl
      have hbl4 : bl < W4.heap.size := by have := hb4.size; omega
      have HX4d := Lib.hid e4
      have hq4 : q < W4.heap.size := e4.lt
      clear hb3 hok hown hed hrows hb4 e4 hW4 hq hLN hEN hvr hR hN x0 hxl
      go_wp2_with fail
      rw [← HW4.out]
      try rw [← HQ.out]
      refine Calls.mono (l18Ways_any q w1.heap.size t st W4 HV.out HOK.out HPD.out) ?_
      rintro e w7 ⟨wv, ws, Nw, rfl, hb7, hall, hows⟩
      have HB7 := Lib.hid (HB4.out.trans (hb7.mono HB4.out.size))
      have HALL := Lib.hid hall
      have HRW7 := Lib.hid (OwnIntss.below HRW.out hb7)
      have HPD7 := Lib.hid (HPD.out.below hb7)
      have HXD7 := Lib.hid (HX4d.out.below hb7)
      have HCL7 : Hid (∀ k (h : k < t.labels.length), w7.cell? ⟨bl, k, none⟩ = some (.string t.labels[k])) := fun k hk => keeps hb7 hbl4 (HCL.out k hk)
      have HOWS : Hid (OwnStrss W.heap.size w7 wv ws (Nw.map (txtsOf t.labels))) := hows.lower HB4.out.size
      have hbl7 : bl < w7.heap.size := by have := hb7.size; omega
      obtain ⟨wa, wc, rfl, -, -⟩ := owns_slice hows.out
      have hwl : ws.length = R := by have h := hows.len; rw [List.length_map, hall.1] at h; rw [HR.out]; exact h
      rw [hwl]
      clear hb7 hall hows hbl4 hq4
      go_wp2
      go_loopw [10] (fun v10 wr => ∃ i : Nat, v10 = .int .i64 i ∧ i ≤ R ∧ Below w7.heap.size w7 wr ∧ ∀ j : Nat, j < i → ¬ undetL t (setOf st j) ≠ ByteArray.empty) (fun v10 _ => R - (intOf v10).toNat)
      case atStart => exact ⟨0, rfl, Nat.zero_le _, Below.refl _ _, fun j h => by omega⟩
      case round =>
        obtain ⟨i, rfl, hiR, hbl, hno⟩ := hrel
        obtain ⟨wr0, rfl⟩ : ∃ wr0 : World, wr0 = wr := ⟨_, rfl⟩
        have HNO := Lib.hid hno
        have HBL := Lib.hid hbl
        have hszr := hbl.size
        clear hno
        by_cases hlt : i < R
        · have hlt2 : i < st.rows.length := by rw [← HR.out]; exact hlt
          obtain ⟨b, c2, u, hav, hbw, hcu, hou, hsu⟩ := (OwnIntss.below HRW7.out hbl).rowAt hlt2
          simp only [Value.slice.injEq] at hav
          obtain ⟨rfl, -, rfl⟩ := hav
          have hset : setOf st (i : Int) = st.rows[i] := setOf_at (List.getElem?_eq_getElem hlt2)
          have hrow : st.rows[i]? = some st.rows[i] := List.getElem?_eq_getElem hlt2
          have hrlen := (HGD.out.rowOk HV.out _ (List.getElem_mem hlt2)).len
          obtain ⟨S, hS⟩ : ∃ S, S = st.rows[i] := ⟨_, rfl⟩
          rw [← hS] at hou hsu hset hrlen hrow
          have HSET := Lib.hid hset
          have HROW := Lib.hid hrow
          have HOF := Lib.hid (l18Offers_any p lo _ t u S wr0 HV.out ((HP.out.below HB7.out).below hbl) (hsu) (by omega))
          obtain ⟨ua, uc, rfl, -, -⟩ := owns_slice hou
          obtain ⟨M, hM⟩ : ∃ M, M = S.length := ⟨_, rfl⟩
          rw [← hM] at hcu HOF hrlen
          have HM := Lib.hid hM
          clear hou hsu hset hrow hS hM hbl
          go_wp2_with fail
          refine Calls.mono HOF.out ?_
          rintro e w8 ⟨ov, ovs, rfl, hb8, hoo⟩
          have HB8 := Lib.hid (HBL.out.trans (hb8.mono hszr))
          have HOO := Lib.hid hoo
          have hsz8 := HB8.out.size
          have hofl : (offersS t S).length ≤ 1000 := Nat.le_trans (offersS_len t S) (by have := HM.out; omega)
          have HOFL := Lib.hid hofl
          have x2 := (HXD7.out.below HB8.out).cell 2 rfl
          have hxl := (HXD7.out.below HB8.out).lt
          obtain ⟨oa, oc, rfl, -, -⟩ := owns_slice hoo.out
          obtain ⟨ON, hON⟩ : ∃ ON, ON = ovs.length := ⟨_, rfl⟩
          rw [← hON] at HOO ⊢
          have HON := Lib.hid hON
          clear hb8 hoo hofl HOF hON hcu
          go_wp2
          go_loopw [12] (fun v12 wr => ∃ k : Nat, v12 = .int .i64 k ∧ 1 ≤ k ∧ k ≤ LN ∧ Below w8.heap.size w8 wr ∧ ∀ j, j < k - 1 → sometimes t S (labK t.labels j) = false) (fun v12 _ => LN - (intOf v12).toNat)
          case atStart => exact ⟨1, rfl, Nat.le_refl _, hLL1, Below.refl _ _, fun j h => by omega⟩
          case round =>
            clear x2 hxl
            obtain ⟨k, rfl, hk1, hkL, hbl, hnk⟩ := hrel
            have HNK := Lib.hid hnk
            have HBK := Lib.hid hbl
            have hszk := hbl.size
            have hb7k := HB8.out.trans (hbl.mono hsz8)
            have HB7K := Lib.hid hb7k
            have x2 := (HXD7.out.below hb7k).cell 2 rfl
            have hxl := (HXD7.out.below hb7k).lt
            clear hnk
            by_cases hltk : k < LN
            · have hkL2 : k < t.labels.length := by rw [← HLN.out]; exact hltk
              have hk2 : k - 1 + 1 < t.labels.length := by omega
              have cl := keeps hb7k hbl7 (HCL7.out k hkL2)
              have hlk : labK t.labels (k - 1) = t.labels[k] := by
                rw [labK_get hk2]
                congr 1
                omega
              have hsg := sometimes_go HV.out HOK.out HROW.out hk2
              have hro := refuse_off HV.out S (labK t.labels (k - 1))
              rw [hlk] at hsg hro
              obtain ⟨l, hl⟩ : ∃ l, l = t.labels[k] := ⟨_, rfl⟩
              rw [← hl] at cl hlk hsg hro
              have HLK := Lib.hid hlk
              have HGO := Lib.hid (l12Go_any q w1.heap.size (dSys t st) i l wr HDE.out (HPD7.out.below hb7k))
              obtain ⟨gv, hgv⟩ : ∃ gv, gv = goTo (dSys t st) (i : Int) l := ⟨_, rfl⟩
              rw [← hgv] at HGO hsg
              obtain ⟨rb, hrb⟩ : ∃ rb, rb = refuseB t S l := ⟨_, rfl⟩
              rw [← hrb] at hsg hro
              have HSG := Lib.hid hsg
              have HRO := Lib.hid hro
              have HCLK : Hid (w7.cell? ⟨bl, k, none⟩ = some (.string l)) := by unfold Hid; rw [hl]; exact HCL7.out k hkL2
              have hblk : bl < wr.heap.size := by have := hb7k.size; omega
              clear hbl hb7k hlk hsg hro hgv hrb hl
              go_wp2_with fail
              refine Calls.mono HGO.out ?_
              rintro e w9 ⟨rfl, hb9⟩
              have HB9 := Lib.hid (HBK.out.trans (hb9.mono hszk))
              have hsz9 := HB9.out.size
              have hb79 := HB8.out.trans (HB9.out.mono hsz8)
              have HB79 := Lib.hid hb79
              replace x2 := (HXD7.out.below hb79).cell 2 rfl
              replace hxl := (HXD7.out.below hb79).lt
              replace cl := keeps hb79 hbl7 HCLK.out
              clear hb9 hb79 HGO hblk
              by_cases hge : 0 ≤ gv
              · have hgd : decide (0 ≤ gv) = true := decide_eq_true hge
                rw [hgd, Bool.true_and] at HSG
                have hA : Below w9.heap.size w9 (w9.alloc (.cells #[.string l] 9)) := (Below.refl _ _).alloc (Nat.le_refl _) _
                have h1 : StrssAt wr0.heap.size (w9.alloc (.cells #[.string l] 9)) (.slice oa ON oc) (offersS t S) := (HOO.out.at.below HB9.out).below hA
                have h2 : SliceK 1 encS w9.heap.size (w9.alloc (.cells #[.string l] 9)) (.slice (some ⟨w9.heap.size, 0, none⟩) 1 1) [l] := SliceK.of_owns (e := 9) encS_len rfl (World.ownsRow_lit (base := w9.heap.size) (e := 9) (size := 1) w9 #[.string l] 1 (Nat.le_refl _) (by decide) rfl)
                have HRF := Lib.hid (l18Refuses_any wr0.heap.size w9.heap.size _ _ (offersS t S) [l] (w9.alloc (.cells #[.string l] 9)) h1 h2 HOFL.out (by simp))
                have hrr : ((offersS t S).any fun o => [l].all fun s => !inT o s) = rb := by rw [← HRO.out]; simp
                rw [hrr] at HRF
                have HA9 := Lib.hid hA
                clear h1 h2 hA hrr
                go_wp2_with fail
                refine Calls.mono HRF.out ?_
                rintro e w10 ⟨rfl, hb10⟩
                have HB10 := Lib.hid (HB9.out.trans ((HA9.out.trans (hb10.mono HA9.out.size)).mono hsz9))
                have hb7t := HB8.out.trans (HB10.out.mono hsz8)
                have HB7T := Lib.hid hb7t
                clear hb10 HRF cl x2 hxl
                cases rb
                · go_wp2
                  go_roundw
                  case rel => exact ⟨k + 1, by go_num, by omega, by omega, HB10.out, fun j hj => by
                    by_cases e : j = k - 1
                    · subst e; rw [HLK.out]; exact HSG.out
                    · exact HNK.out j (by omega)⟩
                  case measure => simp [intOf]; omega
                · have HU : Hid (undetL t S = l) := by
                    unfold Hid
                    rw [undet_first hk2 (by rw [HLK.out]; exact HSG.out) HNK.out, HLK.out]
                  have HNE : Hid (undetL t (setOf st (i : Int)) ≠ ByteArray.empty) := by
                    unfold Hid
                    rw [HSET.out, undet_iff HV.out]
                    exact ⟨k - 1, hk2, by rw [HLK.out]; exact HSG.out⟩
                  have hiw : i < ws.length := by omega
                  have cw := HOWS.out.out
                  rw [hwl] at cw
                  obtain ⟨wb, hwa, hwbl⟩ : ∃ wb, wa = some ⟨wb, 0, none⟩ ∧ wb < w7.heap.size := by
                    rcases cw.2 with ⟨h1, h0⟩ | ⟨g, cap, cur, h1, h2, hg, -⟩
                    · omega
                    · simp only [Value.slice.injEq, true_and] at h1
                      exact ⟨g, h1.1, (Array.getElem?_eq_some_iff.1 hg).1⟩
                  subst hwa
                  have cw2 := cw.cellAt i (by omega)
                  rw [List.getElem?_eq_getElem hiw] at cw2
                  have hiN : i < Nw.length := by rw [HALL.out.1]; exact hlt2
                  have hiM : i < (Nw.map (txtsOf t.labels)).length := by rw [List.length_map]; exact hiN
                  have hrowi := HOWS.out.rowAt i hiw hiM
                  rw [List.getElem_map] at hrowi
                  obtain ⟨u, hu⟩ : ∃ u, u = Nw[i] := ⟨_, rfl⟩
                  rw [← hu] at hrowi
                  have hui : Nw[i]? = some u := by rw [hu]; exact List.getElem?_eq_getElem hiN
                  have HLE : Hid (Least ((0 : Int), (0 : Int)) (goBoth (dSys t st) (dSys t st) t.labels) (t.labels.length - 1) (liveF fun p => undetL t (setOf st p.1) ≠ ByteArray.empty) u) := HALL.out.least (G := fun q => undetL t (setOf st q) ≠ ByteArray.empty) hui HNE.out HNO.out
                  have HFEW : Hid ((txtsOf t.labels u).length ≤ 2000) := by have h := HALL.out.few HOK.out.2 hui; unfold Hid; omega
                  have HSU : Hid (l = undetL t (setOf st (difS (dSys t st) (dSys t st) t.labels u).1)) := by
                    unfold Hid
                    rw [HALL.out.2.num i u hui]
                    show l = undetL t (setOf st (i : Int))
                    rw [HSET.out, HU.out]
                  obtain ⟨rv, hrv⟩ : ∃ rv, rv = ws[i] := ⟨_, rfl⟩
                  rw [← hrv] at hrowi cw2
                  have lcw := later_cell (show wb < w10.heap.size by have := HB7T.out.size; omega) (keeps HB7T.out hwbl cw2)
                  have lx2 := later_cell ((HXD7.out.below HB7T.out).lt) ((HXD7.out.below HB7T.out).cell 2 rfl)
                  have lcl := later_cell (show bl < w10.heap.size by have := HB7T.out.size; omega) (keeps HB7T.out hbl7 HCLK.out)
                  have HRI := Lib.hid (owns_below hrowi HB7T.out)
                  have hBF := HB0.out.trans ((HB7.out.trans (HB7T.out.mono HB7.out.size)).mono HB0.out.size)
                  have HBF := Lib.hid hBF
                  have hszT := hBF.size
                  clear hrv hui hu hrowi cw cw2 hBF
                  go_wp2
                  refine wp_region_later (by kernel_rfl) (by kernel_rfl) ?_
                  repeat (go_big_quiet_step ((fail)))
                  refine wpQuiet_nil ?_
                  intro _ hw9
                  obtain ⟨nl, hw8⟩ := hw9
                  subst hw8
                  have HBF2 := Lib.hid (HBF.out.trans (nl.h.mono hszT))
                  have HRI2 := Lib.hid (owns_below HRI.out nl.h)
                  clear lcw lx2 lcl
                  go_wp2
                  ((try simp only [Exit.inBlock, Exit.then]); refine bodyPost_ret (results_tmp4 rfl _ _ _) rfl ?_)
                  exact ⟨HBF2.out, false, txtsOf t.labels u, l, 0, rv, rfl, ⟨.inr (.inr ⟨HV.out, st, HOK.out, rfl, .inr ⟨u, HLE.out, rfl, rfl, HSU.out⟩⟩), HFEW.out⟩, own_lower HRI2.out HB0.out.size⟩
              · have hgd : decide (0 ≤ gv) = false := decide_eq_false hge
                rw [hgd, Bool.false_and] at HSG
                clear cl
                go_wp2
                go_roundw
                case rel => exact ⟨k + 1, by go_num, by omega, by omega, HB9.out, fun j hj => by
                  by_cases e : j = k - 1
                  · subst e; rw [HLK.out]; exact HSG.out
                  · exact HNK.out j (by omega)⟩
                case measure => simp [intOf]; omega
            · obtain rfl : k = LN := by omega
              have HNI : Hid (¬ undetL t (setOf st (i : Int)) ≠ ByteArray.empty) := by
                unfold Hid
                rw [HSET.out]
                exact undet_none HV.out fun j hj => HNK.out j (by have := HLN.out; omega)
              clear hbl hb7k
              go_wp2
              go_roundw
              case rel => exact ⟨i + 1, by go_num, by omega, HB7K.out, fun j hj => by
                by_cases e : j = i
                · subst e; exact HNI.out
                · exact HNO.out j (by omega)⟩
              case measure => simp [intOf]; omega
        · have HNW : Hid (NoWord ((0 : Int), (0 : Int)) (goBoth (dSys t st) (dSys t st) t.labels) (t.labels.length - 1) (liveF fun p => undetL t (setOf st p.1) ≠ ByteArray.empty)) := HALL.out.none (G := fun q => undetL t (setOf st q) ≠ ByteArray.empty) fun k hk => HNO.out k (by have := HR.out; omega)
          have HBF := Lib.hid (HB0.out.trans ((HB7.out.trans (HBL.out.mono HB7.out.size)).mono HB0.out.size))
          clear hbl
          go_wp2
          ((try simp only [Exit.inBlock, Exit.then]); refine bodyPost_ret (results_tmp4 rfl _ _ _) rfl ?_)
          exact dt_none HBF.out (.inr (.inr ⟨HV.out, st, HOK.out, rfl, .inl ⟨HNW.out, rfl, rfl, rfl⟩⟩))
  · have HV := Lib.hid hv
    clear hv
    go_enter Tryz.func25, Tryz.ntmps25
    go_wp2_with fail
    rw [← HW.out]
    try rw [← HPP.out]
    refine (Decides.no (l11Is_any p lo t W HSH.out HP.out) HV.out).mono ?_
    rintro e w1 ⟨rfl, hb1⟩
    have HB1 := Lib.hid (HB0.out.trans (hb1.mono HB0.out.size))
    clear hb1
    go_wp2
    ((try simp only [Exit.inBlock, Exit.then]); refine bodyPost_ret (results_tmp4 rfl _ _ _) rfl ?_)
    exact dt_none HB1.out (.inl ⟨HV.out, rfl, rfl, rfl, rfl⟩)

end Go.Proofs.YtpoleaekcjjedaaGreatDoor
