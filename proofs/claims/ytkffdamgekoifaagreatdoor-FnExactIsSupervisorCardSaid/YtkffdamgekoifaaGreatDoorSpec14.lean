/-
  What the reference's l29Triples computes.
-/
import Derived.Test.YtkffdamgekoifaaGreatDoorSpec13
import Derived.Test.YtkffdamgekoifaaGreatDoorTail
namespace Go.Proofs.YtkffdamgekoifaaGreatDoor
open Go Go.RowKit

set_option maxRecDepth 100000 in
set_option maxHeartbeats 4000000 in
theorem l29Triples_any (bp br bs lo : Nat) (p : Plant) (r s : Lts) (w : World) (hp : Valid p.sys) (hr : Valid r) (hs : Valid s) (mp : PlantPtr lo w bp p) (mr : LtsPtr lo w br r) (ms : LtsPtr lo w bs s) (hsh : Short p.sys.labels) :
    Calls Tryz.prog 17 #[.pointer (some ⟨bp, 0, none⟩), .pointer (some ⟨br, 0, none⟩), .pointer (some ⟨bs, 0, none⟩)] w (Decides (Controls p r s) w) := by
  have MP := Lib.hid mp
  have MR := Lib.hid mr
  have MS := Lib.hid ms
  have VP := Lib.hid hp
  have VR := Lib.hid hr
  have VS := Lib.hid hs
  have HSH := Lib.hid hsh
  obtain ⟨mv, nv, ml, hm, hn, hms, hns⟩ := mp
  have ML := Lib.hid ml
  have HM := Lib.hid hm
  have HN := Lib.hid hn
  have HMS := Lib.hid hms
  have HNS := Lib.hid hns
  obtain ⟨am, cm, rfl, -⟩ := hms
  obtain ⟨an, cn, rfl, -⟩ := hns
  obtain ⟨lv, ev, hpl, -, p1, p2, -, hlv, -⟩ := ml
  obtain ⟨_, _, hrl, -, r1, -⟩ := mr
  obtain ⟨_, _, hsl, -, s1, -⟩ := ms
  have HP2 := Lib.hid p2
  replace p1 := later_cell hpl p1
  replace r1 := later_cell hrl r1
  replace s1 := later_cell hsl s1
  obtain ⟨al, cl, rfl, hln, hlc, hlrow⟩ := hlv
  have HLR := Lib.hid hlrow
  have hA0 := Lib.hid (At.zero (ctl := ctlOf p) hp hs hr)
  clear hp hr hs hsh hm hn p2 hlrow
  go_enter Tryz.func17, Tryz.ntmps17
  go_wp2
  refine wp_region_later_tail 13 (by kernel_rfl) (by kernel_rfl) ?_
  simp only [List.take_succ_cons, List.take_zero, List.drop_succ_cons, List.drop_zero]
  repeat (go_big_quiet_step ((fail)))
  refine wpQuiet_nil ?_
  intro _ hw9
  obtain ⟨nl, hw8⟩ := hw9
  subst hw8
  have hnl := nl.h
  have hz := hnl.size
  go_wp2
  obtain ⟨w0, hw0⟩ : ∃ w0, w0 = ((nl.w.alloc (.cells #[.int .i64 p.sys.initial, .int .i64 s.initial, .int .i64 r.initial] 2)).alloc (.cells #[.slice (some ⟨nl.w.heap.size, 0, none⟩) 3 3] 26)).alloc (.cells #[] 73) := ⟨_, rfl⟩
  go_loopw [7, 8, 9] (fun vr ve i wr => ∃ (n : Nat) (st : Net), i = .int .i64 n ∧ At p.sys s r (ctlOf p) n st ∧ Below w.heap.size w wr ∧ NetMem w.heap.size st vr ve wr) (fun _ _ i _ => 64000 - (intOf i).toNat)
  case atStart => exact ⟨0, _, rfl, hA0.out, ((hnl.alloc hz _).alloc (by simp; omega) _).alloc (by simp; omega) _, NetMem.start nl.w w.heap.size hz _ _ _⟩
  case round =>
    obtain ⟨n, st, rfl, hat, hbl, hmem⟩ := hrel
    have HAT := Lib.hid hat
    have HBL := Lib.hid hbl
    have HME := Lib.hid hmem
    have hsz := hbl.size
    have hfew := hat.ok.few VP.out VS.out VR.out
    clear hat hbl hw0 w0 hnl hz p1 r1 s1
    by_cases hlt : n < st.rows.length
    · obtain ⟨⟨vs, hrows⟩, -⟩ := hmem
      have hvl : vs.length = st.rows.length := by rw [hrows.1, List.length_map]
      obtain ⟨b1, c1, g1, d1, rfl, hb1, k0, hg1, hd1, hd2, k1, -, -⟩ := hrows.cells3 hlt
      have HMID := Lib.hid (HAT.out.mid hlt)
      obtain ⟨cur, hcur⟩ : ∃ cur, cur = st.rows[n] := ⟨_, rfl⟩
      rw [← hcur] at k1 HMID
      replace k0 := later_cell hb1 k0
      replace k1 := later_cell hg1 k1
      clear hcur hrows
      go_wp2
      refine wp_region_later_tail 9 (by kernel_rfl) (by kernel_rfl) ?_
      simp only [List.take_succ_cons, List.take_zero, List.drop_succ_cons, List.drop_zero]
      repeat (go_big_quiet_step ((fail)))
      refine wpQuiet_nil ?_
      intro _ hw9
      obtain ⟨nl, hw8⟩ := hw9
      subst hw8
      have HB2 := Lib.hid (HBL.out.trans (nl.h.mono hsz))
      have HME2 := Lib.hid (HME.out.below nl.h)
      clear k0 k1
      go_wp2_with fail
      refine (l11Out_any bp lo p.sys cur.x _ (by have := VP.out.most; omega) (ML.out.below HB2.out)).mono ?_
      rintro e w9 ⟨lv9, rfl, hb9, hol⟩
      have HB9 := Lib.hid (HB2.out.trans (hb9.mono HB2.out.size))
      have HME9 := Lib.hid (HME2.out.below hb9)
      have HOL := Lib.hid hol
      have HAP : Hid (lv9.ownBlock = none ∨ lv9.ownBlock ≠ u8.ownBlock) := by
        cases hb : lv9.ownBlock with
        | none => exact .inl rfl
        | some b =>
          refine .inr fun e => ?_
          have h1 := (hol.lt b hb).1
          have h2 := (HME2.out.2.lt b e.symm).2
          omega
      have hL300 : (outOf p.sys cur.x).length ≤ 300 := Nat.le_trans (List.length_filter_le _ _) VP.out.most
      obtain ⟨al9, cl9, rfl, hc9, hm9⟩ := owns_slice hol
      obtain ⟨B9, hB9⟩ : ∃ B9, B9 = nl.w.heap.size := ⟨_, rfl⟩
      rw [← hB9] at HOL
      have hin := HMID.out.ok.inside cur (List.mem_of_getElem? HMID.out.here)
      have hy0 := hin.2.1.1
      have hz0 := hin.2.2.1
      obtain ⟨L, hLL⟩ : ∃ L, L = outOf p.sys cur.x := ⟨_, rfl⟩
      rw [← hLL] at HOL HAP hL300 ⊢
      have HL := Lib.hid hLL
      clear hb9 hol hB9 hin hLL HBL HME HB2 HME2 HAT
      go_wp2
      go_loopw [7, 8, 11] (fun vr ve j wr => ∃ (k : Nat) (st : Net), j = .int .i64 k ∧ k ≤ L.length ∧ Mid p.sys s r (ctlOf p) n cur k st ∧ Below w.heap.size w wr ∧ NetMem w.heap.size st vr ve wr
        ∧ wr.ownsRow B9 73 3 (.slice al9 L.length cl9) L.length (L.flatMap encE) ∧ ((Value.slice al9 L.length cl9).ownBlock = none ∨ (Value.slice al9 L.length cl9).ownBlock ≠ ve.ownBlock)) (fun _ _ j _ => L.length - (intOf j).toNat)
      case atStart => exact ⟨0, st, rfl, Nat.zero_le _, HMID.out, HB9.out, HME9.out, HOL.out, HAP.out⟩
      case round =>
        clear HB9 HME9 HMID HAP HOL
        obtain ⟨k, st, rfl, hk, hmid, hbl, hmem, hol, hap⟩ := hrel
        have HMID := Lib.hid hmid
        have HBL := Lib.hid hbl
        have HME := Lib.hid hmem
        have HOL := Lib.hid hol
        have HAP := Lib.hid hap
        have hsz := hbl.size
        have hfew2 := hmid.ok.few VP.out VS.out VR.out
        have hlt2 := hmid.lt
        by_cases hkl : k < L.length
        · obtain ⟨⟨vs2, hrows⟩, hed⟩ := hmem
          have hvl2 : vs2.length = st.rows.length := by rw [hrows.1, List.length_map]
          obtain ⟨b1, c1, g1, d1, rfl, hb1, k0, hg1, -, -, k1, k2, k3⟩ := hrows.cells3 hlt2
          have hce : st.rows[n] = cur := by
            have := hmid.here
            rw [List.getElem?_eq_getElem hlt2] at this
            exact Option.some.inj this
          rw [hce] at k1 k2 k3
          obtain ⟨bl, rfl, hbl9, e1, e2, e3⟩ := own_edge hol hkl
          have hek : EdgeOk p.sys L[k] := outOf_ok VP.out cur.x _ (by rw [← HL.out]; exact List.getElem_mem _)
          obtain ⟨hll, hla⟩ := labAt_idx hek
          obtain ⟨bt, ot, rfl, -, hbt, t1⟩ := (HLR.out.below hbl).one hll
          simp only [encS, List.getElem?_cons_zero] at t1
          rw [← hla] at t1
          have hl0 : ((L[k].lab.toNat : Nat) : Int) = L[k].lab := by have := hek.l0; omega
          have hl1 := hek.l1
          have hlz : (labAt p.sys L[k]).size ≤ 1073741824 := by rw [hla]; exact HSH.out _ hll
          obtain ⟨e, hee⟩ : ∃ e, e = L[k] := ⟨_, rfl⟩
          obtain ⟨m, hm⟩ : ∃ m, m = L[k].lab.toNat := ⟨_, rfl⟩
          rw [← hm] at t1 hl0 hll
          rw [← hee] at e1 e2 e3 t1 hl0 hl1 hlz
          rw [← hl0] at e2
          have hml : (m : Int) < (p.sys.labels.length : Int) := by omega
          obtain ⟨l, hl⟩ : ∃ l, l = labAt p.sys e := ⟨_, rfl⟩
          rw [← hl] at t1 hlz
          have HEE := Lib.hid hee
          have HLB := Lib.hid hl
          have p2 := later_cell (show bp < wr.heap.size by omega) (keeps hbl hpl HP2.out)
          have lk0 := later_cell hb1 k0
          have lk1 := later_cell hg1 k1
          have lk2 := later_cell hg1 k2
          have lk3 := later_cell hg1 k3
          have le2 := later_cell hbl9 e2
          have le3 := later_cell hbl9 e3
          replace t1 := later_cell hbt t1
          have hb1n := hb1
          clear hmid hbl hrows hed hol hap k0 k1 k2 k3 e1 e2 e3 hek hl0 hl1 hee hl hm hla hce hll
          go_wp2
          refine wp_region_later (by kernel_rfl) (by kernel_rfl) ?_
          repeat (go_big_quiet_step ((fail)))
          refine wpQuiet_nil ?_
          intro _ hw9
          obtain ⟨nl, hw8⟩ := hw9
          subst hw8
          have HBn := Lib.hid (HBL.out.trans (nl.h.mono hsz))
          have HMEn := Lib.hid (HME.out.below nl.h)
          have HOLn := Lib.hid (owns_below HOL.out nl.h)
          replace lk0 := lk0 nl
          replace lk2 := lk2 nl
          replace lk3 := lk3 nl
          replace le3 := le3 nl
          have hzn := nl.h.size
          clear p2 t1 le2 lk1 HBL HME HOL
          go_wp2_with fail
          refine (l29Go_any bs lo s cur.y l _ VS.out hy0 (MS.out.below HBn.out)).mono ?_
          rintro e0 wB ⟨y, rfl, hbB, hyv⟩
          have HYV := Lib.hid hyv
          have HBB := Lib.hid (HBn.out.trans (hbB.mono HBn.out.size))
          have HMEB := Lib.hid (HMEn.out.below hbB)
          have HOLB := Lib.hid (owns_below HOLn.out hbB)
          have hzB := hbB.size
          replace lk0 := keeps hbB (by omega) lk0
          replace lk3 := keeps hbB (by omega) lk3
          replace le3 := keeps hbB (by omega) le3
          clear hbB hyv HBn HMEn HOLn lk2
          go_wp2_with fail
          refine (l29Go_any br lo r cur.z l _ VR.out hz0 (MR.out.below HBB.out)).mono ?_
          rintro e0 wC ⟨z, rfl, hbC, hzv⟩
          have HZV := Lib.hid hzv
          have HBC := Lib.hid (HBB.out.trans (hbC.mono HBB.out.size))
          have HMEC := Lib.hid (HMEB.out.below hbC)
          have HOLC := Lib.hid (owns_below HOLB.out hbC)
          have hzC := hbC.size
          replace le3 := keeps hbC (by omega) le3
          clear hbC hzv HBB HMEB HOLB lk0 lk3
          cases hys : alongB s cur.y l
          · have HYS := Lib.hid hys
            clear hys le3
            have c5 := later_cell (show bp < wC.heap.size by have := HBC.out.size; omega) (keeps HBC.out hpl HN.out)
            have HNSC := Lib.hid (HNS.out.below HBC.out)
            obtain ⟨nm, hnm⟩ : ∃ nm, nm = l.extract 0 (openAt l.data.toList) := ⟨_, rfl⟩
            obtain ⟨tn, htn⟩ : ∃ tn, tn = textAt p.names nm := ⟨_, rfl⟩
            have HLN := Lib.hid (fun w' => l01LabelName_any l w' hlz)
            have HFN := Lib.hid (fun (g : Later wC) => l11Find_any lo _ p.names nm g.w (HNSC.out.below g.h))
            rw [← hnm] at HLN
            rw [← htn] at HFN
            have HCI := Lib.hid (ctl_iff (p := p) (l := l))
            rw [← hnm, ← htn] at HCI
            clear hnm htn
            cases hct : ctlOf p l
            · have hd : decide (tn < 0) = true := decide_eq_true (HCI.out.2 hct)
              have HCT := Lib.hid hct
              clear hct
              go_wp2
              refine wp_region_later (by kernel_rfl) (by kernel_rfl) ?_
              repeat (go_big_quiet_step ((first | (go_at_call 35; exact later_same (HLN.out _)) | (go_at_call 34; exact later_call (HFN.out _)))))
              refine wpQuiet_nil ?_
              intro _ hw9
              obtain ⟨nl, hw8⟩ := hw9
              subst hw8
              go_wp2
              go_ret
              refine ⟨false, rfl, ⟨(fun h => by cases h), fun h => absurd h (Controls.not_fail (mid_fail HL.out HMID.out hkl ?_))⟩, HBC.out.trans (nl.h.mono HBC.out.size)⟩
              rw [← HEE.out]
              exact edgeStep_free (by rw [← HLB.out]; exact HYS.out) (by rw [← HLB.out]; exact HCT.out)
            · have hd : decide (tn < 0) = false := decide_eq_false (fun h => by rw [HCI.out.1 h] at hct; cases hct)
              have HCT := Lib.hid hct
              clear hct
              go_wp2
              refine wp_region_later (by kernel_rfl) (by kernel_rfl) ?_
              repeat (go_big_quiet_step ((first | (go_at_call 35; exact later_same (HLN.out _)) | (go_at_call 34; exact later_call (HFN.out _)))))
              refine wpQuiet_nil ?_
              intro _ hw9
              obtain ⟨nl, hw8⟩ := hw9
              subst hw8
              go_wp2
              go_roundw
              case rel =>
                refine ⟨k + 1, st, by go_num, by omega, mid_next HL.out HMID.out VP.out VS.out VR.out hkl ?_, HBC.out.trans (nl.h.mono HBC.out.size), HMEC.out.below nl.h, owns_below HOLC.out nl.h, HAP.out⟩
                rw [← HEE.out]
                exact edgeStep_ctl (by rw [← HLB.out]; exact HYS.out) (by rw [← HLB.out]; exact HCT.out)
              case measure => simp [intOf]; omega
          · have HYS := Lib.hid hys
            have HY := Lib.hid (HYV.out hys)
            clear hys HYV
            cases hzs : alongB r cur.z l
            · have HZS := Lib.hid hzs
              clear hzs
              go_wp2
              go_ret
              refine ⟨false, rfl, ⟨(fun h => by cases h), fun h => absurd h (Controls.not_fail (mid_fail HL.out HMID.out hkl ?_))⟩, HBC.out⟩
              rw [← HEE.out]
              exact edgeStep_may (by rw [← HLB.out]; exact HYS.out) (by rw [← HLB.out]; exact HZS.out)
            · have HZS := Lib.hid hzs
              have HZ := Lib.hid (HZV.out hzs)
              clear hzs HZV
              obtain ⟨q, hq⟩ : ∃ q : Tri, q = ⟨e.dst, y, z⟩ := ⟨_, rfl⟩
              obtain ⟨wD, hwD⟩ : ∃ wD, wD = wC.alloc (.cells #[.int .i64 e.dst, .int .i64 y, .int .i64 z] 2) := ⟨_, rfl⟩
              have hbD : Below wC.heap.size wC wD := by rw [hwD]; exact (Below.refl _ _).alloc (Nat.le_refl _) _
              have hrow : wD.ownsRow wC.heap.size 2 1 (.slice (some ⟨wC.heap.size, 0, none⟩) 3 3) 3 ((row3 q).map (Value.int .i64)) := by
                rw [hwD, hq]; exact World.ownsRow_lit (size := 1) wC #[.int .i64 e.dst, .int .i64 y, .int .i64 z] 3 (Nat.le_refl _) (by decide) rfl
              have HROW := Lib.hid hrow
              have HBD := Lib.hid hbD
              have hzD := hbD.size
              obtain ⟨⟨vs3, hr3⟩, he3⟩ := HMEC.out
              have HR3 := Lib.hid hr3
              have HE3 := Lib.hid he3
              have HCALL := Lib.hid (l27Row_any w.heap.size wC.heap.size _ _ _ _ wD (hr3.below hbD).at (SliceK.of_owns (e := 2) (xs := row3 q) encI_len rfl (by rw [flat_encI]; exact hrow)))
              obtain ⟨ra, hra⟩ : ∃ ra, ra = rowAt (st.rows.map row3) (row3 q) := ⟨_, rfl⟩
              rw [← hra] at HCALL
              rw [rowAt_place] at hra
              have HWD := Lib.hid hwD
              have hvl3 : vs3.length = st.rows.length := by rw [hr3.1, List.length_map]
              have hef := HMID.out.few
              clear hwD hbD hrow hr3 he3
              by_cases hpl3 : place st.rows q < st.rows.length
              · obtain ⟨pn, hpn⟩ : ∃ pn, pn = place st.rows q := ⟨_, rfl⟩
                rw [if_pos hpl3, ← hpn] at hra
                rw [← hpn] at hpl3
                subst hra
                have HPN := Lib.hid hpn
                have HPL := Lib.hid hpl3
                have HQ := Lib.hid hq
                have hneg : ¬ (pn : Int) < 0 := by omega
                have hneg' : decide ((pn : Int) < 0) = false := decide_eq_false hneg
                clear hpn hq
                go_wp2_with fail
                rw [← HWD.out]
                refine Calls.mono HCALL.out ?_
                rintro e0 wE ⟨rfl, hbE⟩
                have HBE := Lib.hid (HBC.out.trans ((HBD.out.trans (hbE.mono HBD.out.size)).mono HBC.out.size))
                have HNE := Lib.hid ((HMEC.out.below HBD.out).below hbE)
                have HOLE := Lib.hid (owns_below (owns_below HOLC.out HBD.out) hbE)
                clear hbE
                obtain ⟨ie, hie, hze0, hze1, hze2⟩ := info_parts info_edge2
                obtain ⟨-, hed5⟩ := HNE.out
                have HED5 := Lib.hid hed5
                have hszE := HBE.out.size
                clear hed5
                go_wp2_with (at_builtin; refine wpList_append_own_at _ rfl _ _ 32 rfl w.heap.size 73 ie (.agg #[.int .i64 0, .int .i64 0, .int .i64 0]) 3 24 Tryz.underlying32 hie hze0 hze1 hze2 rfl (by decide) _ _ _ rfl (HED5.out.alloc _) ⟨wE.heap.size, 0, none⟩ 1 1 [.int .i64 n, .int .i64 0, .int .i64 pn] rfl rfl ?c1 ?c2 ?c3 ?c4 ?c5 ?_)
                case c1 => have := three_new wE (edgeOf (n, pn)) 73; simpa [encE, edgeOf] using this
                case c2 => first | (intro u hu; simp at hu; rcases hu with rfl | rfl | rfl <;> rfl) | exact ⟨rfl, rfl, rfl⟩ | simp [Value.oneCell']
                case c3 => first | omega | (simp [maxLen]; omega)
                case c4 => first | omega | (simp; omega)
                case c5 => first | omega | (simp; omega)
                intro v' w5 ho5 hg5 _ hob5
                have hal5 : Below wE.heap.size wE (wE.alloc (.cells #[.int .i64 n, .int .i64 0, .int .i64 pn] 73)) := (Below.refl _ _).alloc (Nat.le_refl _) _
                have HNET := Lib.hid (net_push_edge (a := n) (b := pn) HNE.out hal5 hg5 (by simpa [encE, edgeOf] using ho5))
                have HOL5 := Lib.hid ((owns_below HOLE.out hal5).kept hg5 HAP.out)
                have HAP5 : Hid ((Value.slice (some ⟨bl, 0, none⟩) L.length cl9).ownBlock = none ∨ (Value.slice (some ⟨bl, 0, none⟩) L.length cl9).ownBlock ≠ v'.ownBlock) := by
                  rcases hob5 with h | h
                  · rw [h]; exact HAP.out
                  · refine .inr ?_
                    rw [h]
                    have := ((owns_below HOLE.out hal5).lt bl rfl).2
                    simp [Value.ownBlock]
                    simp at this
                    omega
                have HB5 : Hid (Below w.heap.size w w5) := (HBE.out.alloc HBE.out.size _).grown hg5 (by have := HBE.out.size; simp; omega) (fun b e => (HED5.out.lt b e).1)
                clear ho5 hg5 hob5 hal5
                go_wp2_with fail
                go_roundw
                case rel =>
                  refine ⟨k + 1, _, by go_num, by omega, mid_next HL.out HMID.out VP.out VS.out VR.out hkl ?_, HB5.out, HNET.out, HOL5.out, HAP5.out⟩
                  rw [← HEE.out, HPN.out, HQ.out]
                  exact edgeStep_old HLB.out HYS.out HZS.out HY.out HZ.out (by rw [← HQ.out, ← HPN.out]; exact HPL.out)
                case measure => simp [intOf]; omega
              · rw [if_neg hpl3] at hra
                subst hra
                have HPL := Lib.hid hpl3
                have HQ := Lib.hid hq
                clear hq hpl3
                obtain ⟨i0, hi, hz0', hz1, hz2⟩ := info_parts info_int64s
                go_wp2_with fail
                rw [← HWD.out]
                refine Calls.mono HCALL.out ?_
                rintro e0 wE ⟨rfl, hbE⟩
                have HBE0 := Lib.hid (HBC.out.trans ((HBD.out.trans (hbE.mono HBD.out.size)).mono HBC.out.size))
                have HRE := Lib.hid ((HR3.out.below HBD.out).below hbE)
                have HOLE0 := Lib.hid (owns_below (owns_below HOLC.out HBD.out) hbE)
                have HRW := Lib.hid (owns_below HROW.out hbE)
                have HBCE := Lib.hid (HBD.out.trans (hbE.mono HBD.out.size))
                have hszE0 := HBE0.out.size
                clear hbE
                go_wp2_with (at_builtin; refine wpList_append_own_at _ rfl _ _ 70 rfl w.heap.size 26 i0 (.slice none 0 0) 1 24 Tryz.underlying70 hi hz0' hz1 hz2 rfl (by decide) _ _ _ rfl (HRE.out.2.1.alloc _) ⟨wE.heap.size, 0, none⟩ 1 1 [.slice (some ⟨wC.heap.size, 0, none⟩) 3 3] rfl rfl ?c1 ?c2 ?c3 ?c4 ?c5 ?_)
                case c1 => exact (cell_one_new _ _ _)
                case c2 => first | rfl | (intro u hu; simp at hu; subst hu; rfl)
                case c3 => first | omega | (simp [maxLen]; omega)
                case c4 => first | omega | (simp; omega)
                case c5 => first | omega | (simp; omega)
                intro v3 w3 ho3 hg3 _ _
                have hal3 : Below wE.heap.size wE (wE.alloc (.cells #[.slice (some ⟨wC.heap.size, 0, none⟩) 3 3] 26)) := (Below.refl _ _).alloc (Nat.le_refl _) _
                have HN3 := Lib.hid (net_push_row HR3.out HE3.out (HBCE.out.trans (hal3.mono HBCE.out.size)) (owns_below HRW.out hal3) HBC.out.size hg3 (by rw [hvl3]; exact ho3))
                have HOLE := Lib.hid ((owns_below HOLE0.out hal3).kept hg3 (own_types (owns_below HOLE0.out hal3) (owns_below HRE.out.2.1 hal3) (by decide)))
                have HBE : Hid (Below w.heap.size w w3) := (HBE0.out.alloc HBE0.out.size _).grown hg3 (by have := HBE0.out.size; simp; omega) (fun b e => (HRE.out.2.1.lt b e).1)
                clear ho3 hg3 hal3
                obtain ⟨ie, hie, hze0, hze1, hze2⟩ := info_parts info_edge2
                obtain ⟨-, hed5⟩ := HN3.out
                have HED5 := Lib.hid hed5
                have hszE := HBE.out.size
                clear hed5
                go_wp2_with (at_builtin; refine wpList_append_own_at _ rfl _ _ 32 rfl w.heap.size 73 ie (.agg #[.int .i64 0, .int .i64 0, .int .i64 0]) 3 24 Tryz.underlying32 hie hze0 hze1 hze2 rfl (by decide) _ _ _ rfl (HED5.out.alloc _) ⟨w3.heap.size, 0, none⟩ 1 1 [.int .i64 n, .int .i64 0, .int .i64 st.rows.length] rfl rfl ?c1 ?c2 ?c3 ?c4 ?c5 ?_)
                case c2 => first | (intro u hu; simp at hu; rcases hu with rfl | rfl | rfl <;> rfl) | exact ⟨rfl, rfl, rfl⟩ | simp [Value.oneCell']
                case c3 => first | omega | (simp [maxLen]; omega)
                case c4 => first | omega | (simp; omega)
                case c5 => first | omega | (simp; omega)
                intro v' w5 ho5 hg5 _ hob5
                have hal5 : Below w3.heap.size w3 (w3.alloc (.cells #[.int .i64 n, .int .i64 0, .int .i64 st.rows.length] 73)) := (Below.refl _ _).alloc (Nat.le_refl _) _
                have HNET := Lib.hid (net_push_edge (a := n) (b := st.rows.length) HN3.out hal5 hg5 (by simpa [encE, edgeOf] using ho5))
                have HOL5 := Lib.hid ((owns_below HOLE.out hal5).kept hg5 HAP.out)
                have HAP5 : Hid ((Value.slice (some ⟨bl, 0, none⟩) L.length cl9).ownBlock = none ∨ (Value.slice (some ⟨bl, 0, none⟩) L.length cl9).ownBlock ≠ v'.ownBlock) := by
                  rcases hob5 with h | h
                  · rw [h]; exact HAP.out
                  · refine .inr ?_
                    rw [h]
                    have := ((owns_below HOLE.out hal5).lt bl rfl).2
                    simp [Value.ownBlock]
                    simp at this
                    omega
                have HB5 : Hid (Below w.heap.size w w5) := (HBE.out.alloc HBE.out.size _).grown hg5 (by have := HBE.out.size; simp; omega) (fun b e => (HED5.out.lt b e).1)
                clear ho5 hg5 hob5 hal5
                go_wp2_with fail
                go_roundw
                case rel =>
                  refine ⟨k + 1, _, by go_num, by omega, mid_next HL.out HMID.out VP.out VS.out VR.out hkl ?_, HB5.out, HNET.out, HOL5.out, HAP5.out⟩
                  rw [← HEE.out, HQ.out]
                  exact edgeStep_new HLB.out HYS.out HZS.out HY.out HZ.out (by rw [← HQ.out]; exact HPL.out)
                case measure => simp [intOf]; omega
        · obtain rfl : k = L.length := by omega
          have HMD := Lib.hid (mid_done HL.out hmid VP.out)
          clear hmid hbl hmem hol hap
          go_wp2
          go_roundw
          case rel => exact ⟨n + 1, st, by go_num, HMD.out, HBL.out, HME.out⟩
          case measure => simp [intOf]; omega
    · obtain ⟨⟨vs, hrows⟩, hed⟩ := hmem
      obtain ⟨wM, rfl⟩ : ∃ wM : World, wM = wr := ⟨_, rfl⟩
      have HF := Lib.hid (HAT.out.found hlt)
      have HOK := Lib.hid HAT.out.ok
      have hew : st.edges.length ≤ 19200000 := by have h1 := HAT.out.few; have h2 := HAT.out.le; omega
      obtain ⟨N, hN⟩ : ∃ N, N = st.rows.length := ⟨_, rfl⟩
      have HNN := Lib.hid hN
      have HRW := Lib.hid hrows
      have HED := Lib.hid hed
      obtain ⟨av, cv, rfl, -, -⟩ := owns_slice hrows.2.1
      obtain ⟨ae, ce, rfl, -, -⟩ := owns_slice hed
      have hvl : vs.length = N := by rw [hrows.1, List.length_map, hN]
      rw [hvl] at HRW ⊢
      obtain ⟨ib, hib, hzb0, hzb1, hzb2⟩ := info_parts info_bool
      rw [← hN] at hfew hlt
      obtain ⟨EL, hEL⟩ : ∃ EL, EL = st.edges.map edgeOf := ⟨_, rfl⟩
      have hle : st.edges.length = EL.length := by rw [hEL, List.length_map]
      have HEL := Lib.hid hEL
      rw [← hEL, hle] at HED
      rw [hle] at hew ⊢
      have HLE := Lib.hid hle
      clear hrows hed hN HME HAT hEL hle
      go_wp2_with (at_make; refine wpList_make_full _ rfl _ _ 60 rfl wM.heap.size 4 ib _ 1 Tryz.underlying60 hib hzb0 hzb1 .i64 .i64 _ _ N rfl rfl rfl rfl ?_ ?_ ?_ ?_)
      · rw [hzb2]; omega
      · simp [maxLen]; omega
      · exact Nat.le_refl _
      intro w1 ho hg
      rw [toList_madeCells_one] at ho
      obtain ⟨G, hG⟩ : ∃ G, G = wM.heap.size := ⟨_, rfl⟩
      have HB1 : Hid (Below wM.heap.size wM w1) := (Below.refl _ wM).grown hg (Nat.le_refl _) (fun _ h => by cases h)
      have hMl := marksOf_len p st.rows
      rw [← HNN.out] at hMl
      rw [← hG] at ho ⊢
      have HO : Hid (w1.ownsRow G 4 1 (.slice (some ⟨G, 0, none⟩) N N) N (((marksOf p st.rows).take 0).map Value.bool ++ List.replicate ((marksOf p st.rows).length - 0) (.bool false))) := by
        unfold Hid; rw [hMl]; simpa using ho
      have HG := Lib.hid hG
      have hGl : G < w1.heap.size := (ho.lt _ rfl).2
      obtain ⟨ML9, hML9⟩ : ∃ ML9, ML9 = marksOf p st.rows := ⟨_, rfl⟩
      rw [← hML9] at hMl HO
      have HML9 := Lib.hid hML9
      clear ho hg hG hib hzb0 hzb1 hzb2 hML9
      go_wp2
      go_loopw [20] (fun i w3 => ∃ k : Nat, k ≤ N ∧ i = .int .i64 k ∧ Below wM.heap.size wM w3 ∧ G < w3.heap.size ∧ w3.ownsRow G 4 1 (.slice (some ⟨G, 0, none⟩) N N) N ((ML9.take k).map Value.bool ++ List.replicate (ML9.length - k) (.bool false))) (fun i _ => N - (intOf i).toNat)
      case atStart => exact ⟨0, Nat.zero_le _, rfl, HB1.out, hGl, HO.out⟩
      case round =>
        clear HO HB1 hGl
        obtain ⟨k, hk, rfl, hb3, hg3, ho3⟩ := hrel
        have HB3 := Lib.hid hb3
        have HO3 := Lib.hid ho3
        have hs3 := hb3.size
        have HBW := Lib.hid (HBL.out.trans (hb3.mono hsz))
        by_cases hkt : k < N
        · have hkr : k < st.rows.length := by rw [← HNN.out]; exact hkt
          obtain ⟨b1, c1, g1, d1, e9, hb1, k0, hg1, -, -, k1, -, -⟩ := (HRW.out.below hb3).cells3 hkr
          simp only [Value.slice.injEq] at e9
          obtain ⟨rfl, -, rfl⟩ := e9
          obtain ⟨qx, hqx⟩ : ∃ qx, qx = st.rows[k].x := ⟨_, rfl⟩
          rw [← hqx] at k1
          have HQX := Lib.hid hqx
          have lk0 := later_cell hb1 k0
          have lk1 := later_cell hg1 k1
          have lm := later_cell (show bp < wr.heap.size by have := HBW.out.size; omega) (keeps HBW.out hpl HM.out)
          have HMW := Lib.hid (HMS.out.below HBW.out)
          have hmk : k < ML9.length := by omega
          obtain ⟨mb, hmb⟩ : ∃ mb, mb = p.marks.contains qx := ⟨_, rfl⟩
          have HHAS := Lib.hid (fun (g : Later wr) => l00Has_any lo _ p.marks qx g.w (SliceK.below HMW.out g.h))
          rw [← hmb] at HHAS
          have HMB := Lib.hid hmb
          clear hb3 ho3 k0 k1 hqx hmb
          go_wp2
          refine wp_region_later_tail 14 (by kernel_rfl) (by kernel_rfl) ?_
          simp only [List.take_succ_cons, List.take_zero, List.drop_succ_cons, List.drop_zero]
          repeat (go_big_quiet_step ((go_at_call 37; exact later_call (HHAS.out _))))
          refine wpQuiet_nil ?_
          intro _ hw9
          obtain ⟨nl, hw8⟩ := hw9
          subst hw8
          have HO4 := Lib.hid (owns_below HO3.out nl.h)
          have c2 := HO4.out.cellAt k (by omega)
          rw [filled_get _ _ _ _ hmk] at c2
          have c3 := HO4.out.frozenAt k
          have ho4 := (HO4.out.stored k (.bool mb)).1
          have hset := filled_set ML9 Value.bool (.bool false) k hmk
          have hmv : ML9[k] = mb := by
            have h1 := HML9.out
            subst h1
            rw [HMB.out, HQX.out]
            exact marksOf_get hkr _
          rw [hmv] at hset
          rw [hset] at ho4
          have HO5 := Lib.hid ho4
          have HB5 : Hid (Below wM.heap.size wM (nl.w.setCell ⟨G, k, none⟩ (.bool mb))) := (HB3.out.trans (nl.h.mono hs3)).setCell (by rw [HG.out]; exact Nat.le_refl _) _
          have hg5 : G < (nl.w.setCell ⟨G, k, none⟩ (.bool mb)).heap.size := by have := nl.h.size; simp; omega
          clear ho4 hset hmv lk0 lk1 lm
          go_wp2
          go_roundw
          case rel => exact ⟨k + 1, by omega, by go_num, HB5.out, hg5, HO5.out⟩
          case measure => simp [intOf]; omega
        · obtain rfl : N = k := by omega
          have HO6 : Hid (wr.ownsRow G 4 1 (.slice (some ⟨G, 0, none⟩) N N) N (ML9.map Value.bool)) := by
            unfold Hid
            rw [← hMl, List.take_length, Nat.sub_self, List.replicate_zero, List.append_nil, hMl] at ho3
            exact ho3
          clear hb3 ho3 HO3
          go_wp2
          go_loopg [21] (2 * N + 1) (fun gk v21 w4 => ∃ (good : List Bool) (b : Bool), v21 = .bool b ∧ GoodRel st.edges (markOf p st.rows) N G wM w4 gk good b)
          case atStart =>
            refine ⟨ML9, true, rfl, hMl, ?_, (fun h => by cases h), ?_, HB3.out, HO6.out⟩
            · rw [HML9.out]; exact marksOf_ok p st
            · have := falses_le ML9; simp; omega
          case round =>
            obtain ⟨good, b, rfl, hrel⟩ := hrel
            have HR := Lib.hid hrel
            have hgl := hrel.len
            clear hrel HO6
            cases b
            · have HS := Lib.hid (SliceK.of_owns (enc := encB) (e := 4) (xs := good) encB_len hgl.symm (by rw [flat_encB]; exact HR.out.own))
              have HC := Lib.hid (controls_good HF.out (by rw [hgl, HNN.out]) HR.out.ok (HR.out.done rfl))
              have HT := Lib.hid (show (truesTo good N).length = N ↔ Controls p r s from by rw [← hgl]; exact (truesTo_all good).trans HC.out.symm)
              have HC15 := Lib.hid (l15True_any G _ good wr (by omega) HS.out)
              rw [hgl] at HC15
              have htl := truesTo_len good N
              obtain ⟨tl, htl2⟩ : ∃ tl, tl = truesTo good N := ⟨_, rfl⟩
              rw [← htl2] at HC15 HT htl
              clear htl2
              go_wp2_with fail
              refine Calls.mono HC15.out ?_
              rintro e0 w6 ⟨v6, rfl, hb6, ho6⟩
              obtain ⟨a6, c6, rfl, -, -⟩ := owns_slice ho6
              have HB6 := Lib.hid (HBL.out.trans ((HR.out.below.trans (hb6.mono HR.out.below.size)).mono hsz))
              clear hb6 ho6
              go_wp2_with fail
              go_ret
              refine ⟨_, rfl, ?_, HB6.out⟩
              rw [← HT.out, beq_iff_eq]
              omega
            · go_wp2
              go_loopw [21, 22] (fun v21 v22 w5 => ∃ (k : Nat) (more : Bool) (good5 : List Bool), v21 = .bool more ∧ v22 = .int .i64 k ∧ k ≤ EL.length ∧ Sweep st.edges (markOf p st.rows) good good5 k more
                ∧ Below wM.heap.size wM w5 ∧ w5.ownsRow G 4 1 (.slice (some ⟨G, 0, none⟩) N N) N (good5.map Value.bool)) (fun _ v22 _ => EL.length - (intOf v22).toNat)
              case atStart => exact ⟨0, false, good, rfl, rfl, Nat.zero_le _, Sweep.start HR.out.ok, HR.out.below, HR.out.own⟩
              case round =>
                obtain ⟨k, more, good5, rfl, rfl, hk, hsw, hb5, ho5⟩ := hrel
                have HSW := Lib.hid hsw
                have HB5 := Lib.hid hb5
                have HO5 := Lib.hid ho5
                have hs5 := hb5.size
                have hl5 : good5.length = N := by rw [hsw.len, hgl]
                clear hsw
                by_cases hkt : k < EL.length
                · have hke : k < st.edges.length := by rw [HLE.out]; exact hkt
                  obtain ⟨be, rfl, hbe, e1, -, e3⟩ := own_edge (owns_below HED.out hb5) hkt
                  have hee : EL[k] = edgeOf st.edges[k] := by
                    have h1 := HEL.out
                    subst h1
                    simp
                  rw [hee] at e1 e3
                  have hends := HOK.out.ends st.edges[k] (List.getElem_mem hke)
                  rw [← HNN.out] at hends
                  obtain ⟨ea, hea⟩ : ∃ ea, ea = st.edges[k].1 := ⟨_, rfl⟩
                  obtain ⟨eb, heb⟩ : ∃ eb, eb = st.edges[k].2 := ⟨_, rfl⟩
                  simp only [edgeOf] at e1 e3
                  rw [← hea] at e1 hends
                  rw [← heb] at e3 hends
                  obtain ⟨hea1, heb1⟩ := hends
                  have hia : (ea : Int) < (N : Int) := by omega
                  have hib : (eb : Int) < (N : Int) := by omega
                  have ca := cell_bool ho5 hea1
                  have cb := cell_bool ho5 heb1
                  have HEA := Lib.hid hea
                  have HEB := Lib.hid heb
                  clear hea heb hee hb5 ho5
                  cases hgb : good5.getD eb false
                  · rw [hgb] at cb
                    have HGB := Lib.hid (getD_some (by rw [hl5]; exact heb1) hgb)
                    clear hgb
                    go_wp2
                    go_roundw
                    case rel => exact ⟨k + 1, more, good5, rfl, by go_num, by omega, HSW.out.skip hke (fun h => by rw [← HEB.out, HGB.out] at h; cases h), HB5.out, HO5.out⟩
                    case measure => simp [intOf]; omega
                  · rw [hgb] at cb
                    have HGB := Lib.hid (getD_some (by rw [hl5]; exact heb1) hgb)
                    clear hgb
                    cases hga : good5.getD ea false
                    · rw [hga] at ca
                      have HGA := Lib.hid (getD_some (by rw [hl5]; exact hea1) hga)
                      have f1 := HO5.out.frozenAt ea
                      have HO6 := Lib.hid (HO5.out.stored ea (.bool true)).1
                      clear hga
                      go_wp2
                      go_roundw
                      case rel =>
                        refine ⟨k + 1, true, good5.set ea true, rfl, by go_num, by omega, ?_, HB5.out.setCell (by rw [HG.out]; exact Nat.le_refl _) _, ?_⟩
                        · rw [HEA.out]; exact HSW.out.turn hke (by rw [← HEB.out]; exact HGB.out) (by rw [← HEA.out]; exact HGA.out)
                        · rw [List.map_set]; exact HO6.out
                      case measure => simp [intOf]; omega
                    · rw [hga] at ca
                      have HGA := Lib.hid (getD_some (by rw [hl5]; exact hea1) hga)
                      clear hga
                      go_wp2
                      go_roundw
                      case rel => exact ⟨k + 1, more, good5, rfl, by go_num, by omega, HSW.out.skip hke (fun _ => by rw [← HEA.out]; exact HGA.out), HB5.out, HO5.out⟩
                      case measure => simp [intOf]; omega
                · obtain rfl : k = EL.length := by omega
                  have HSE : Hid (Sweep st.edges (markOf p st.rows) good good5 st.edges.length more) := by unfold Hid; rw [HLE.out]; exact HSW.out
                  clear hb5 ho5
                  go_wp2
                  go_roundg (2 * falses good5 + more.toNat)
                  case measure =>
                    have h1 := HR.out.left
                    cases more
                    · have h2 := (HSE.out.no rfl).1
                      rw [h2]
                      simp only [Bool.toNat_true, Bool.toNat_false] at *
                      omega
                    · have h2 := HSE.out.yes rfl
                      simp only [Bool.toNat_true] at *
                      omega
                  case rel =>
                    refine ⟨good5, more, rfl, hl5, HSE.out.ok, (fun h => ?_), Nat.le_refl _, HB5.out, HO5.out⟩
                    subst h
                    exact HSE.out.done

end Go.Proofs.YtkffdamgekoifaaGreatDoor
