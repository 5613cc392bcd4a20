/-
  The reference's l30Classes: the classes of a monitor's states.
-/
import Derived.Test.YtjghfgaincnegaaGreatDoorN18
import Derived.Test.YtjghfgaincnegaaGreatDoorN13
import Derived.Test.YtjghfgaincnegaaGreatDoorN12
import Derived.Test.YtjghfgaincnegaaGreatDoorN1
import Derived.Test.YtjghfgaincnegaaGreatDoorN16
namespace Go.Proofs.YtjghfgaincnegaaGreatDoor
open Go Go.RowKit

set_option maxRecDepth 100000 in
set_option maxHeartbeats 16000000 in
theorem l30Classes_any (p lo : Nat) (mo : Mon) (w : World) (hv : Valid mo.sys) (hVL : (mo.vs.length : Int) = mo.sys.states) (hmp : MonPtr lo w p mo) : Calls Tryz.prog 44 #[.pointer (some ⟨p, 0, none⟩)] w (MadeNums (restV mo.sys mo.vs) w) := by
 obtain ⟨d, hd⟩ : ∃ d, d = mo.sys := ⟨_, rfl⟩
 obtain ⟨V, hVE⟩ : ∃ V, V = mo.vs := ⟨_, rfl⟩
 obtain ⟨hp, vv, q4, hvs⟩ := hmp
 rw [← hd] at hv hVL hp ⊢
 rw [← hVE] at hVL hvs ⊢
 have HV := Lib.hid hv
 have HP := Lib.hid hp
 have hst1 := hv.st0
 have hst2 := hv.st1
 have hlp := hv.labels.pos
 have hl12 := hv.labels.most
 obtain ⟨lv, ev, hpl, q0, -, q2, -, hl, -⟩ := hp
 obtain ⟨al, cl, rfl, hln, hlc, hlrow⟩ := hl
 obtain ⟨N, hN⟩ : ∃ N : Nat, (N : Int) = d.states := ⟨d.states.toNat, by omega⟩
 have hVN : V.length = N := by omega
 obtain ⟨P0, hP0e⟩ : ∃ P0, P0 = normL V := ⟨_, rfl⟩
 have hPL0 : P0.length = N := by rw [hP0e, normL_len, hVN]
 have hPN0 : normL P0 = P0 := by rw [hP0e]; exact normL_norm V
 have HNV := Lib.hid (l02Norm_any lo vv V w (by omega) hvs)
 rw [← hP0e] at HNV
 have HPL0 := Lib.hid hPL0
 have HPN0 := Lib.hid hPN0
 obtain ⟨av, cv, rfl, -⟩ := hvs
 have hNs : d.states.toNat = N := by omega
 obtain ⟨LN, hLN⟩ : ∃ LN, LN = d.labels.length := ⟨_, rfl⟩
 obtain ⟨m, hm⟩ : ∃ m, m = d.labels.length - 1 := ⟨_, rfl⟩
 have hmL : m + 1 = LN := by omega
 rw [← hLN] at hln q2 hlp hl12
 rw [← hN] at q0 hst1 hst2
 have HQ0 := Lib.hid q0
 have HQ2 := Lib.hid q2
 have HLR := Lib.hid hlrow
 have HLN := Lib.hid hLN
 have HN := Lib.hid hN
 have hrest : restV d V = partsV (goOf d) N m P0 N := by unfold restV; rw [hNs, ← hm, hP0e]
 rw [hrest]
 have hgo : ∀ i k, i < N → k < m → goOf d i k < (N : Int) := fun i k _ _ => by rw [hN]; exact (goOf_lt hv i k).2
 have HGOLT := Lib.hid hgo
 obtain ⟨i1, hi1, hz10, hz11, hz12⟩ := info_parts info_int64N
 have HI1 := Lib.hid hi1
 have hszp : 0 ≤ w.heap.size := Nat.zero_le _
 clear hv q2 hlrow hLN hN hm hrest hgo hVL hVN hP0e hPL0 hPN0 hd hVE
 obtain ⟨G, hG⟩ : ∃ G, G = w.heap.size := ⟨_, rfl⟩
 have HG := Lib.hid hG
 clear hG
 go_enter Tryz.func44, Tryz.ntmps44
 go_wp2_with fail
 refine Calls.mono HNV.out ?_
 rintro e w1 ⟨v1, rfl, hb1, ho⟩
 rw [HPL0.out] at ho
 obtain ⟨g1, c1, rfl, hg1, -⟩ := own_someC ho (by omega)
 have HB1 := Lib.hid hb1
 have HO : Hid (w1.ownsRow G 2 1 (.slice (some ⟨g1, 0, none⟩) N c1) N ((partsV (goOf d) N m P0 0).map (Value.int .i64))) := by
  unfold Hid; rw [HG.out]; exact ho
 clear ho hb1 HNV q4 q0
 go_wp2
 go_loopw [3, 5] (fun v3 v4 wr => ∃ (r g c : Nat), r ≤ N ∧ v4 = .int .i64 r ∧ v3 = .slice (some ⟨g, 0, none⟩) N c ∧ Below w.heap.size w wr ∧ wr.ownsRow G 2 1 (.slice (some ⟨g, 0, none⟩) N c) N ((partsV (goOf d) N m P0 r).map (Value.int .i64))) (fun _ v4 _ => N - (intOf v4).toNat)
 case atStart => exact ⟨0, _, _, Nat.zero_le _, rfl, rfl, HB1.out, HO.out⟩
 case round =>
  clear HO HB1
  obtain ⟨r, g, c, hr, rfl, rfl, hbl, ho⟩ := hrel
  obtain ⟨wC, rfl⟩ : ∃ wC : World, wC = wr := ⟨_, rfl⟩
  have HBL := Lib.hid hbl
  have HO := Lib.hid ho
  have hszC := hbl.size
  have q0 := keeps hbl hpl HQ0.out
  clear hbl ho
  by_cases hlt : r < N
  ·obtain ⟨P, hP⟩ : ∃ P, P = partsV (goOf d) N m P0 r := ⟨_, rfl⟩
   have hPl : P.length = N := by rw [hP]; exact partsV_len HPL0.out _
   have hP0 : ∀ z ∈ P, 0 ≤ z := fun z hz => by rw [hP] at hz; exact (partsV_range HPL0.out HPN0.out _ hz).1
   obtain ⟨bs, hbs⟩ : ∃ bs, bs = (List.range N).map fun i => P.getD i 0 :: blkOf (goOf d) m P i := ⟨_, rfl⟩
   have hbl9 : bs.length = N := by rw [hbs]; simp
   have hbi : ∀ i (h : i < bs.length), bs[i] = P.getD i 0 :: blkOf (goOf d) m P i := fun i h => by simp [hbs]
   obtain ⟨Q, hQ⟩ : ∃ Q, Q = firstIx bs := ⟨_, rfl⟩
   have hQN : Q.length = N := by rw [hQ, firstIx_len, hbl9]
   have hnext : normL Q = partsV (goOf d) N m P0 (r + 1) := by rw [hQ, hbs, hP]; rfl
   rw [← hP] at HO
   have HPL := Lib.hid hPl
   have HP0 := Lib.hid hP0
   have HBI := Lib.hid hbi
   have HBLN := Lib.hid hbl9
   have HQ := Lib.hid hQ
   have HQN := Lib.hid hQN
   have HNX := Lib.hid hnext
   clear hP hPl hP0 hbs hbl9 hbi hQ hQN hnext
   have hi1' := HI1.out
   go_wp2_with (at_make; refine wpList_make_full _ rfl _ _ 26 rfl wC.heap.size 2 i1 _ 1 Tryz.underlying26 hi1' hz10 hz11 .i64 .i64 _ _ N rfl rfl rfl rfl ?_ ?_ ?_ ?_)
   ·rw [hz12]; omega
   ·simp [maxLen]; omega
   ·exact Nat.le_refl _
   intro w2 ho hg
   rw [toList_madeCells_one] at ho
   obtain ⟨G2, hG2⟩ : ∃ G2, G2 = wC.heap.size := ⟨_, rfl⟩
   have hb12 : Below wC.heap.size wC w2 := (Below.refl _ wC).grown hg (Nat.le_refl _) (fun _ h => by cases h)
   have HBC2 := Lib.hid hb12
   rw [← hG2] at ho ⊢
   have HO2 : Hid (w2.ownsRow G2 2 1 (.slice (some ⟨G2, 0, none⟩) N N) N (List.replicate N (.int .i64 0))) := by
    unfold Hid; simpa using ho
   have HG2 := Lib.hid hG2
   have hGG : w.heap.size ≤ G2 := by rw [hG2]; exact hszC
   clear ho hg hG2 hb12 q0
   go_wp2
   go_loopw [7] (fun v6 wr => ∃ i : Nat, i ≤ N ∧ v6 = .int .i64 i ∧ Below G2 wC wr ∧ wr.ownsRow G2 2 1 (.slice (some ⟨G2, 0, none⟩) N N) N ((Q.take i).map (Value.int .i64) ++ List.replicate (Q.length - i) (.int .i64 0))) (fun v6 _ => N - (intOf v6).toNat)
   case atStart => exact ⟨0, Nat.zero_le _, rfl, by rw [HG2.out]; exact HBC2.out, by simpa [HQN.out] using HO2.out⟩
   case round =>
    clear HO2 HBC2
    obtain ⟨i, hi, rfl, hbi, hoi⟩ := hrel
    obtain ⟨wI, rfl⟩ : ∃ wI : World, wI = wr := ⟨_, rfl⟩
    have hbi2 : Below wC.heap.size wC wI := by rw [← HG2.out]; exact hbi
    have hbw := HBL.out.trans (hbi2.mono hszC)
    have HBI2 := Lib.hid hbi
    have HBW := Lib.hid hbw
    have HOI := Lib.hid hoi
    have q0 := keeps hbw hpl HQ0.out
    have hszI := hbw.size
    clear hbi hbi2
    by_cases hiN : i < N
    ·have hiQ : i < Q.length := by rw [HQN.out]; exact hiN
     have hib : i < bs.length := by rw [HBLN.out]; exact hiN
     have d2 := hoi.cellAt i (by omega)
     rw [filled_get _ _ _ _ hiQ] at d2
     have d3 := hoi.frozenAt i
     have ho4 := (hoi.stored i (.int .i64 (i : Int))).1
     obtain ⟨wJ, hwJ⟩ : ∃ wJ, wJ = wI.setCell ⟨G2, i, none⟩ (.int .i64 (i : Int)) := ⟨_, rfl⟩
     have hbJ : Below G2 wC wJ := by rw [hwJ]; exact HBI2.out.setCell (Nat.le_refl _) _
     have hoJ : wJ.ownsRow G2 2 1 (.slice (some ⟨G2, 0, none⟩) N N) N (((Q.take i).map (Value.int .i64) ++ List.replicate (Q.length - i) (Value.int .i64 0)).set i (Value.int .i64 (i : Int))) := by
      rw [hwJ]
      simpa using ho4
     have hbJ2 : Below wC.heap.size wC wJ := by rw [← HG2.out]; exact hbJ
     have hbJw := HBL.out.trans (hbJ2.mono hszC)
     have HBJ := Lib.hid hbJ
     have HBJW := Lib.hid hbJw
     have HOJ := Lib.hid hoJ
     have HPJ := Lib.hid (owns_below HO.out hbJ2)
     have hszJ := hbJw.size
     have HWJ := Lib.hid hwJ
     clear ho4 hwJ hbJ hbJ2 hbJw hoJ hoi hbw
     go_wp2
     try rw [← HWJ.out]
     go_loopw [8] (fun v7 wr => ∃ k : Nat, k ≤ i ∧ v7 = .int .i64 k ∧ Below wJ.heap.size wJ wr ∧ ∀ j (h : j < bs.length), j < k → bs[j] ≠ bs[i]) (fun v7 _ => i - (intOf v7).toNat)
     case atStart => exact ⟨0, Nat.zero_le _, rfl, (by first | exact Below.refl _ _ | (rw [HWJ.out]; exact Below.refl _ _)), fun _ _ h => by omega⟩
     case round =>
      obtain ⟨k, hk, rfl, hbk, hx⟩ := hrel
      obtain ⟨wK, rfl⟩ : ∃ wK : World, wK = wr := ⟨_, rfl⟩
      have HX := Lib.hid hx
      have HBK := Lib.hid hbk
      have hszk := hbk.size
      clear hx hbk q0 d2 d3
      by_cases hki : k < i
      ·have hkb : k < bs.length := by rw [HBLN.out]; omega
       have hki2 : k < P.length := by rw [HPL.out]; omega
       have hii2 : i < P.length := by rw [HPL.out]; omega
       have HPK := Lib.hid (owns_below HPJ.out HBK.out)
       have e1 := HPK.out.cellAt i (by omega)
       have e2 := HPK.out.cellAt k (by omega)
       have hgK := (HPK.out.lt g rfl).2
       rw [List.getElem?_map, List.getElem?_eq_getElem hii2] at e1
       rw [List.getElem?_map, List.getElem?_eq_getElem hki2] at e2
       simp only [Option.map_some] at e1 e2
       obtain ⟨pi, hpi⟩ : ∃ pi, pi = P[i] := ⟨_, rfl⟩
       obtain ⟨pk, hpk⟩ : ∃ pk, pk = P[k] := ⟨_, rfl⟩
       rw [← hpi] at e1
       rw [← hpk] at e2
       replace e1 := later_cell hgK e1
       replace e2 := later_cell hgK e2
       obtain ⟨b0, hb0⟩ : ∃ b0, b0 = (pi == pk) := ⟨_, rfl⟩
       have HB0 : Hid (b0 = true ↔ P.getD i 0 = P.getD k 0) := by
        unfold Hid
        rw [hb0, beq_iff_eq, getD_eq hii2, getD_eq hki2, hpi, hpk]
       have hb0' := hb0.symm
       clear hpi hpk hb0
       go_wp2
       refine wp_region_later (by kernel_rfl) (by kernel_rfl) ?_
       repeat (go_big_quiet_step ((fail)))
       refine wpQuiet_nil ?_
       intro _ hw9
       obtain ⟨nl, hw8⟩ := hw9
       subst hw8
       have HBR := Lib.hid (HBK.out.trans (nl.h.mono hszk))
       obtain ⟨wR, hwR⟩ : ∃ wR, wR = nl.w := ⟨_, rfl⟩
       have hszR : wK.heap.size ≤ wR.heap.size := by rw [hwR]; exact nl.h.size
       have HKR : Hid (Below wK.heap.size wK wR) := by unfold Hid; rw [hwR]; exact nl.h
       try rw [hb0']
       rw [← hwR] at HBR ⊢
       clear hwR nl e1 e2 hb0'
       go_wp2
       go_loopw [9, 10] (fun v8 v9 wr => ∃ (n : Nat) (b : Bool), 1 ≤ n ∧ n ≤ LN ∧ v9 = .int .i64 n ∧ v8 = .bool b ∧ Below wK.heap.size wK wr ∧ (b = true ↔ (P.getD i 0 = P.getD k 0 ∧ ∀ j, j < n - 1 → sameTo P (goOf d i j) (goOf d k j)))) (fun _ v9 _ => LN - (intOf v9).toNat)
       case atStart => exact ⟨1, b0, Nat.le_refl _, by omega, rfl, rfl, HKR.out, ⟨fun h => ⟨HB0.out.1 h, fun j h => by omega⟩, fun h => HB0.out.2 h.1⟩⟩
       case round =>
        obtain ⟨n, b, hn1, hn2, rfl, rfl, hbn, hb⟩ := hrel
        obtain ⟨wN, rfl⟩ : ∃ wN : World, wN = wr := ⟨_, rfl⟩
        have hbJN := HBK.out.trans (hbn.mono hszk)
        have hbwN := HBJW.out.trans (hbJN.mono hszJ)
        have HBN := Lib.hid hbn
        have HBJN := Lib.hid hbJN
        have HBWN := Lib.hid hbwN
        have HBB := Lib.hid hb
        have q2 := keeps hbwN hpl HQ2.out
        have hszn := hbn.size
        have hszN := hbJN.size
        have hszwN := hbwN.size
        clear hbn hb hbJN
        by_cases hnL : n < LN
        ·cases b
         ·have HNE : Hid (bs[k] ≠ bs[i]) := fun e => by
           rw [HBI.out _ hkb, HBI.out _ hib, List.cons.injEq, blkOf_iff] at e
           have := HBB.out.2 ⟨e.1.symm, fun j hj => (e.2 j (by omega)).symm⟩
           cases this
          go_wp2
          go_roundw
          case rel => exact ⟨k + 1, by omega, by go_num, HBJN.out, fun j h h' => by
           by_cases e : j = k
           ·subst e; exact HNE.out
           ·exact HX.out j h (by omega)⟩
          case measure => simp [intOf]; omega
         ·have hnd : n < d.labels.length := by rw [← HLN.out]; exact hnL
          obtain ⟨bl, ol, rfl, -, hblw, c1⟩ := (HLR.out.below hbwN).one hnd
          simp only [encS, List.getElem?_cons_zero] at c1
          obtain ⟨l, hl⟩ : ∃ l, l = d.labels[n] := ⟨_, rfl⟩
          rw [← hl] at c1
          have HG1 := Lib.hid (l12Go_any p lo d (i : Int) l wN HV.out.edge (HP.out.below hbwN))
          have hgi : goTo d (i : Int) l = goOf d i (n - 1) := by
           unfold goOf
           rw [show n - 1 + 1 = n from by omega, List.getD_eq_getElem?_getD, List.getElem?_eq_getElem hnd, hl]
           rfl
          have hgk : goTo d (k : Int) l = goOf d k (n - 1) := by
           unfold goOf
           rw [show n - 1 + 1 = n from by omega, List.getD_eq_getElem?_getD, List.getElem?_eq_getElem hnd, hl]
           rfl
          have hGK := fun w' (hb : Below wN.heap.size wN w') => l12Go_any p lo d (k : Int) l w' HV.out.edge (HP.out.below (hbwN.trans (hb.mono hszwN)))
          rw [hgk] at hGK
          rw [hgi] at HG1
          have HG2' := Lib.hid hGK
          obtain ⟨x, hx⟩ : ∃ x, x = goOf d i (n - 1) := ⟨_, rfl⟩
          obtain ⟨y, hy⟩ : ∃ y, y = goOf d k (n - 1) := ⟨_, rfl⟩
          have hx2 : -1 ≤ x ∧ x < (N : Int) := by rw [hx, HN.out]; exact goOf_lt HV.out _ _
          have hy2 : -1 ≤ y ∧ y < (N : Int) := by rw [hy, HN.out]; exact goOf_lt HV.out _ _
          rw [← hx] at HG1
          rw [← hy] at HG2'
          have HXX := Lib.hid hx
          have HYY := Lib.hid hy
          clear hl hgi hgk hGK hx hy hbwN
          go_wp2_with fail
          refine Calls.mono HG1.out ?_
          rintro e w3 ⟨rfl, hb3⟩
          have HB3 := Lib.hid hb3
          have HG3 := Lib.hid (HG2'.out w3 hb3)
          have q2' := keeps hb3 (Nat.lt_of_lt_of_le hpl hszwN) q2
          have c1' := keeps hb3 hblw c1
          clear q2 c1 hb3 HG1 HG2'
          go_wp2_with fail
          refine Calls.mono HG3.out ?_
          rintro e w4 ⟨rfl, hb4⟩
          have hb34 := HB3.out.trans (hb4.mono HB3.out.size)
          have HB4 := Lib.hid (HBN.out.trans (hb34.mono hszn))
          have hJ4 := HBJN.out.trans (hb34.mono hszN)
          have HP4 := Lib.hid (owns_below HPJ.out hJ4)
          have hg4 := (HP4.out.lt g rfl).2
          have hsz4 := HB4.out.size
          clear q2' c1' hb4 hb34 hJ4 HG3 HB3
          by_cases hx0 : x < 0
          ·by_cases hy0 : y < 0
           ·have HS : Hid (sameTo P (goOf d i (n - 1)) (goOf d k (n - 1))) := sameTo_both (by rw [← HXX.out]; exact hx0) (by rw [← HYY.out]; exact hy0)
            have hd1 : decide (x < 0) = true := decide_eq_true hx0
            have hd2 : decide (y < 0) = true := decide_eq_true hy0
            go_wp2
            refine wp_region_later (by kernel_rfl) (by kernel_rfl) ?_
            repeat (go_big_quiet_step ((fail)))
            refine wpQuiet_nil ?_
            intro _ hw9
            obtain ⟨nl, hw8⟩ := hw9
            subst hw8
            have HB5 := Lib.hid (HB4.out.trans (nl.h.mono hsz4))
            go_wp2
            go_roundw
            case rel => exact ⟨n + 1, true, by omega, by omega, by go_num, rfl, HB5.out, ⟨fun _ => ⟨(HBB.out.1 (by trivial)).1, fun j h => by
             by_cases e : j = n - 1
             ·rw [e]; exact HS.out
             ·exact (HBB.out.1 (by trivial)).2 j (by omega)⟩, fun _ => by trivial⟩⟩
            case measure => simp [intOf]; omega
           ·have HS : Hid (¬ sameTo P (goOf d i (n - 1)) (goOf d k (n - 1))) := sameTo_left HP0.out (by rw [← HXX.out]; exact hx0) (by rw [← HYY.out]; exact hy0)
            have hge : ¬ 0 ≤ x := by omega
            have hd1 : decide (x < 0) = true := decide_eq_true hx0
            have hd2 : decide (y < 0) = false := decide_eq_false hy0
            have hd3 : decide (0 ≤ x) = false := decide_eq_false hge
            go_wp2
            refine wp_region_later (by kernel_rfl) (by kernel_rfl) ?_
            repeat (go_big_quiet_step ((fail)))
            refine wpQuiet_nil ?_
            intro _ hw9
            obtain ⟨nl, hw8⟩ := hw9
            subst hw8
            have HB5 := Lib.hid (HB4.out.trans (nl.h.mono hsz4))
            go_wp2
            go_roundw
            case rel => exact ⟨n + 1, false, by omega, by omega, by go_num, rfl, HB5.out, ⟨(fun h => by cases h), fun h => absurd (h.2 (n - 1) (by omega)) HS.out⟩⟩
            case measure => simp [intOf]; omega
          ·by_cases hy0 : y < 0
           ·have HS : Hid (¬ sameTo P (goOf d i (n - 1)) (goOf d k (n - 1))) := sameTo_right HP0.out (by rw [← HXX.out]; exact hx0) (by rw [← HYY.out]; exact hy0)
            have hge : 0 ≤ x := by omega
            have hge2 : ¬ 0 ≤ y := by omega
            have hd1 : decide (x < 0) = false := decide_eq_false hx0
            have hd2 : decide (0 ≤ x) = true := decide_eq_true hge
            have hd3 : decide (0 ≤ y) = false := decide_eq_false hge2
            go_wp2
            refine wp_region_later (by kernel_rfl) (by kernel_rfl) ?_
            repeat (go_big_quiet_step ((fail)))
            refine wpQuiet_nil ?_
            intro _ hw9
            obtain ⟨nl, hw8⟩ := hw9
            subst hw8
            have HB5 := Lib.hid (HB4.out.trans (nl.h.mono hsz4))
            go_wp2
            go_roundw
            case rel => exact ⟨n + 1, false, by omega, by omega, by go_num, rfl, HB5.out, ⟨(fun h => by cases h), fun h => absurd (h.2 (n - 1) (by omega)) HS.out⟩⟩
            case measure => simp [intOf]; omega
           ·obtain ⟨xn, hxn⟩ : ∃ xn : Nat, (xn : Int) = x := ⟨x.toNat, by omega⟩
            obtain ⟨yn, hyn⟩ : ∃ yn : Nat, (yn : Int) = y := ⟨y.toNat, by omega⟩
            have hxN : xn < N := by omega
            have hyN : yn < N := by omega
            have hxP : xn < P.length := by rw [HPL.out]; exact hxN
            have hyP : yn < P.length := by rw [HPL.out]; exact hyN
            have e1 := HP4.out.cellAt xn (by omega)
            have e2 := HP4.out.cellAt yn (by omega)
            rw [List.getElem?_map, List.getElem?_eq_getElem hxP] at e1
            rw [List.getElem?_map, List.getElem?_eq_getElem hyP] at e2
            simp only [Option.map_some] at e1 e2
            obtain ⟨px, hpx⟩ : ∃ px, px = P[xn] := ⟨_, rfl⟩
            obtain ⟨py, hpy⟩ : ∃ py, py = P[yn] := ⟨_, rfl⟩
            rw [← hpx] at e1
            rw [← hpy] at e2
            replace e1 := later_cell hg4 e1
            replace e2 := later_cell hg4 e2
            have HS : Hid (sameTo P (goOf d i (n - 1)) (goOf d k (n - 1)) ↔ px = py) := by
             unfold Hid
             rw [← HXX.out, ← HYY.out, sameTo_some hx0 hy0, ← hxn, ← hyn, Int.toNat_natCast, Int.toNat_natCast, getD_eq hxP, getD_eq hyP, hpx, hpy]
            rw [← hxn, ← hyn]
            have hge : 0 ≤ (xn : Int) := by omega
            have hge2 : 0 ≤ (yn : Int) := by omega
            have hnl1 : ¬ (xn : Int) < 0 := by omega
            have hnl2 : ¬ (yn : Int) < 0 := by omega
            have hd1 : decide ((xn : Int) < 0) = false := decide_eq_false hnl1
            have hd2 : decide (0 ≤ (xn : Int)) = true := decide_eq_true hge
            have hd3 : decide (0 ≤ (yn : Int)) = true := decide_eq_true hge2
            clear hpx hpy hxn hyn hx0 hy0 hx2 hy2 HXX HYY
            cases g9 : (px == py)
            ·have HS2 : Hid (¬ px = py) := by rw [beq_eq_false_iff_ne] at g9; exact g9
             go_wp2
             refine wp_region_later (by kernel_rfl) (by kernel_rfl) ?_
             repeat (go_big_quiet_step ((fail)))
             refine wpQuiet_nil ?_
             intro _ hw9
             obtain ⟨nl, hw8⟩ := hw9
             subst hw8
             have HB5 := Lib.hid (HB4.out.trans (nl.h.mono hsz4))
             go_wp2
             go_roundw
             case rel => exact ⟨n + 1, false, by omega, by omega, by go_num, rfl, HB5.out, ⟨(fun h => by cases h), fun h => absurd (HS.out.1 (h.2 (n - 1) (by omega))) HS2.out⟩⟩
             case measure => simp [intOf]; omega
            ·have HS2 : Hid (px = py) := by rw [beq_iff_eq] at g9; exact g9
             go_wp2
             refine wp_region_later (by kernel_rfl) (by kernel_rfl) ?_
             repeat (go_big_quiet_step ((fail)))
             refine wpQuiet_nil ?_
             intro _ hw9
             obtain ⟨nl, hw8⟩ := hw9
             subst hw8
             have HB5 := Lib.hid (HB4.out.trans (nl.h.mono hsz4))
             go_wp2
             go_roundw
             case rel => exact ⟨n + 1, true, by omega, by omega, by go_num, rfl, HB5.out, ⟨fun _ => ⟨(HBB.out.1 (by trivial)).1, fun j h => by
              by_cases e : j = n - 1
              ·rw [e]; exact HS.out.2 HS2.out
              ·exact (HBB.out.1 (by trivial)).2 j (by omega)⟩, fun _ => by trivial⟩⟩
             case measure => simp [intOf]; omega
        ·obtain rfl : n = LN := by omega
         clear hbwN
         cases b
         ·have HNE : Hid (bs[k] ≠ bs[i]) := fun e => by
           rw [HBI.out _ hkb, HBI.out _ hib, List.cons.injEq, blkOf_iff] at e
           have := HBB.out.2 ⟨e.1.symm, fun j hj => (e.2 j (by omega)).symm⟩
           cases this
          go_wp2
          go_roundw
          case rel => exact ⟨k + 1, by omega, by go_num, HBJN.out, fun j h h' => by
           by_cases e : j = k
           ·subst e; exact HNE.out
           ·exact HX.out j h (by omega)⟩
          case measure => simp [intOf]; omega
         ·have hEQ : bs[k] = bs[i] := by
           rw [HBI.out _ hkb, HBI.out _ hib, List.cons.injEq, blkOf_iff]
           exact ⟨(HBB.out.1 (by trivial)).1.symm, fun j hj => ((HBB.out.1 (by trivial)).2 j (by omega)).symm⟩
          have hkQ : k < Q.length := by rw [HQN.out]; omega
          have hQki : Q[k] = Q[i] := by
           have h := (firstIx_pat (l := bs) hkb hib).2 hEQ
           simp only [← HQ.out] at h
           exact h
          have hoN := owns_below HOJ.out HBJN.out
          have d1 := hoN.cellAt k (by omega)
          rw [List.getElem?_set_ne (by omega), filled_old _ _ _ _ _ (by omega) hki, hQki] at d1
          have d2 := hoN.cellAt i (by omega)
          rw [List.getElem?_set_self (by simp; omega)] at d2
          have d3 := hoN.frozenAt i
          have ho5 := (hoN.stored i (.int .i64 Q[i])).1
          rw [List.set_set, filled_set Q (Value.int .i64) (.int .i64 0) i hiQ] at ho5
          have HO5 := Lib.hid ho5
          have hG2N := (hoN.lt G2 rfl).2
          have HBE : Hid (Below G2 wC wN) := HBJ.out.trans (HBJN.out.mono (by have := (HOJ.out.lt G2 rfl).2; omega))
          clear hEQ hkQ hQki hoN ho5
          go_wp2
          go_roundw
          case rel => exact ⟨i + 1, by omega, by go_num, HBE.out.setCell (Nat.le_refl _) _, HO5.out⟩
          case measure => simp [intOf]; omega
      ·obtain rfl : k = i := by omega
       have HQI : Hid (Q[k] = (k : Int)) := by
        have h := firstIx_at (l := bs) hib
        rw [← HQ.out, List.getElem?_eq_getElem hiQ] at h
        have h2 : fstIx bs bs[k] = k := fstIx_eq (List.getElem?_eq_getElem hib) fun j hj e => by
         have hjb : j < bs.length := by omega
         rw [List.getElem?_eq_getElem hjb] at e
         exact HX.out j hjb hj (Option.some.inj e)
        rw [h2] at h
        exact Option.some.inj h
       have HO5 : Hid (wK.ownsRow G2 2 1 (.slice (some ⟨G2, 0, none⟩) N N) N ((Q.take (k + 1)).map (Value.int .i64) ++ List.replicate (Q.length - (k + 1)) (.int .i64 0))) := by
        have h := owns_below HOJ.out HBK.out
        rw [← HQI.out, filled_set Q (Value.int .i64) (.int .i64 0) k hiQ] at h
        exact h
       have HBE : Hid (Below G2 wC wK) := HBJ.out.trans (HBK.out.mono (by have := (HOJ.out.lt G2 rfl).2; omega))
       go_wp2
       go_roundw
       case rel => exact ⟨k + 1, by omega, by go_num, HBE.out, HO5.out⟩
       case measure => simp [intOf]; omega
    ·obtain rfl : i = N := by omega
     have hof : wI.ownsRow G2 2 1 (.slice (some ⟨G2, 0, none⟩) i i) Q.length (Q.map (Value.int .i64)) := by
      have h := hoi
      rw [← HQN.out] at h ⊢
      simpa using h
     have HNM := Lib.hid (l02Norm_any G2 (.slice (some ⟨G2, 0, none⟩) i i) Q wI (by rw [HQN.out]; omega) (SliceK.of_owns (enc := encI) encI_len HQN.out.symm (by rw [flat_encI]; rw [HQN.out] at hof; exact hof)))
     rw [HNX.out] at HNM
     clear hoi hof hbw
     go_wp2_with fail
     refine Calls.mono HNM.out ?_
     rintro e w5 ⟨v5, rfl, hb5, ho5⟩
     rw [partsV_len HPL0.out] at ho5
     obtain ⟨g5, c5, rfl, hg5, -⟩ := own_someC ho5 (by omega)
     have HB5 := Lib.hid (HBW.out.trans (hb5.mono hszI))
     have HO5 : Hid (w5.ownsRow G 2 1 (.slice (some ⟨g5, 0, none⟩) i c5) i ((partsV (goOf d) i m P0 (r + 1)).map (Value.int .i64))) := own_lower ho5 (by rw [HG.out]; exact hszI)
     clear hb5 ho5 HNM q0
     go_wp2
     go_roundw
     case rel => exact ⟨r + 1, g5, c5, by omega, by go_num, rfl, HB5.out, HO5.out⟩
     case measure => simp [intOf]; omega
  ·obtain rfl : r = N := by omega
   go_wp2
   go_ret
   refine ⟨_, rfl, HBL.out, ?_⟩
   rw [partsV_len HPL0.out, ← HG.out]
   exact HO.out

end Go.Proofs.YtjghfgaincnegaaGreatDoor
