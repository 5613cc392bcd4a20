/-
  The reference's CountTraces.
  What the small functions of the package laws compute: the size of the arguments, their copies, their comparison.
  The copies of the arguments that the package laws makes.
  The law helper eqInt64S on equal lists.
  The law's comparison of slices of slices of numbers, where they are the same.
-/
import Derived.Test.YtbbffbnfppbibaaGreatDoorCx21
import Derived.Test.YtbbffbnfppbibaaGreatDoorCx9
import Derived.Test.YtbbffbnfppbibaaGreatDoorRows
import Derived.Test.YtbbffbnfppbibaaGreatDoorCx1
import Derived.BigQuiet
import Derived.Deep.QuietTactic
import Derived.Deep.LoopGhost
namespace Go.Proofs.YtbbffbnfppbibaaGreatDoor
open Go Go.RowKit

theorem info_int20 : (Tryz.prog.info? 2).map (fun i => (i.zero, i.size, i.bytes)) = some (some (.int .i64 0), 1, 8) := by kernel_rfl

set_option maxRecDepth 100000 in
set_option maxHeartbeats 4000000 in
theorem specCountTraces_any (lo : Nat) (t : Lts) (lv ev : Value) (q : Int) (w : World) (hsh : Short t.labels) (ht : LtsIn lo w lv ev t) :
    Calls Tryz.prog 10 #[.agg #[.int .i64 t.states, .int .i64 t.initial, lv, ev], .int .i64 q] w (RetCount t q w) := by
  obtain ⟨W, hW⟩ : ∃ W, W = w.alloc (.cells #[.int .i64 t.states, .int .i64 t.initial, lv, ev] 31) := ⟨_, rfl⟩
  have hB0 : Below w.heap.size w W := by rw [hW]; exact (Below.refl _ _).alloc (Nat.le_refl _) _
  have e1 : Blk W w.heap.size [.int .i64 t.states, .int .i64 t.initial, lv, ev] 31 := by rw [hW]; exact Blk.new w _ _
  have HP := Lib.hid ((ht.below hB0).ptr e1)
  have HB0 := Lib.hid hB0
  have HW := Lib.hid hW
  have HSH := Lib.hid hsh
  clear ht hsh hB0 hW e1
  by_cases hv : Valid t
  · have HV := Lib.hid hv
    clear hv
    cases hr : inB q 0 12
    · have HR : Hid (¬ (0 ≤ q ∧ q ≤ 12)) := by unfold inB at hr; simp only [Bool.and_eq_false_iff, decide_eq_false_iff_not] at hr; unfold Hid; omega
      have HI := Lib.hid (fun w' => l00In_any q 0 12 w')
      rw [hr] at HI
      clear hr
      go_enter Tryz.func10, Tryz.ntmps10
      go_wp2_with fail
      rw [← HW.out]
      refine (Decides.yes (l11Is_any _ lo t _ HSH.out HP.out) HV.out).mono ?_
      rintro e w1 ⟨rfl, hb1⟩
      have HB1 := Lib.hid hb1
      clear hb1
      go_wp2_with fail
      refine Calls.mono (HI.out _) ?_
      rintro e w2 ⟨rfl, rfl⟩
      go_wp2
      go_ret2
      exact ⟨HB0.out.trans (HB1.out.mono HB0.out.size), 0, 2, rfl, .inr (.inl ⟨HV.out, HR.out, rfl, rfl⟩)⟩
    · have HR0 : Hid (0 ≤ q ∧ q ≤ 12) := by unfold inB at hr; simp only [Bool.and_eq_true, decide_eq_true_eq] at hr; unfold Hid; omega
      have HI := Lib.hid (fun w' => l00In_any q 0 12 w')
      rw [hr] at HI
      clear hr
      go_enter Tryz.func10, Tryz.ntmps10
      go_wp2_with fail
      rw [← HW.out]
      refine (Decides.yes (l11Is_any _ lo t _ HSH.out HP.out) HV.out).mono ?_
      rintro e w1 ⟨rfl, hb1⟩
      have HB1 := Lib.hid hb1
      clear hb1
      go_wp2_with fail
      refine Calls.mono (HI.out _) ?_
      rintro e w2 ⟨rfl, rfl⟩
      go_wp2_with fail
      refine Calls.mono (l12Sets_any _ lo t _ HV.out (HP.out.below HB1.out)) ?_
      rintro e w3 ⟨hb3, ⟨hfull, rfl⟩ | ⟨st, lv2, vr, ve, hok, rfl, hmem, hown⟩⟩
      · have HB3 := Lib.hid (HB0.out.trans ((HB1.out.trans (hb3.mono HB1.out.size)).mono HB0.out.size))
        have HF := Lib.hid hfull
        clear hb3 hfull
        go_wp2
        go_ret2
        refine ⟨?_, 0, 5, rfl, .inr (.inr (.inl ⟨HV.out, HR0.out, HF.out, rfl, rfl⟩))⟩
        exact HB3.out.alloc HB3.out.size _
      · have HB3 := Lib.hid (HB1.out.trans (hb3.mono HB1.out.size))
        have HOK := Lib.hid hok
        obtain ⟨⟨vs, hrows⟩, hed⟩ := hmem
        have HG : Hid (DGood t st) := by
          unfold Hid
          obtain ⟨⟨n, -, rfl, -⟩, -⟩ := hok
          exact DGood.at HV.out n
        have hr0 := HG.out.some
        have hr40 := hok.2.1
        have he300 := hok.2.2
        obtain ⟨al2, cl2, rfl, -, -⟩ := owns_slice hown
        obtain ⟨ae2, ce2, rfl, -, -⟩ := owns_slice hed
        obtain ⟨av2, cv2, rfl, -, -⟩ := owns_slice hrows.2.1
        obtain ⟨R, hR⟩ : ∃ R, R = st.rows.length := ⟨_, rfl⟩
        obtain ⟨E, hE⟩ : ∃ E, E = st.edges.length := ⟨_, rfl⟩
        rw [← hR] at hr0 hr40
        rw [← hE] at he300 hed
        rw [← hR, ← hE]
        have HR := Lib.hid hR
        have HE := Lib.hid hE
        obtain ⟨LL, hLL⟩ : ∃ LL, LL = t.labels.length := ⟨_, rfl⟩
        rw [← hLL]
        obtain ⟨W4, hW4⟩ : ∃ W4, W4 = w3.alloc (.cells #[.int .i64 R, .int .i64 0, .slice al2 LL cl2, .slice ae2 E ce2] 31) := ⟨_, rfl⟩
        have hb4 : Below w3.heap.size w3 W4 := by rw [hW4]; exact (Below.refl _ _).alloc (Nat.le_refl _) _
        have e4 : Blk W4 w3.heap.size [.int .i64 R, .int .i64 0, .slice al2 LL cl2, .slice ae2 E ce2] 31 := by rw [hW4]; exact Blk.new w3 _ _
        have HX4 := Lib.hid e4
        have HED := Lib.hid (owns_below hed hb4)
        have HBW := Lib.hid (HB0.out.trans ((HB3.out.trans (hb4.mono HB3.out.size)).mono HB0.out.size))
        have HW4 := Lib.hid hW4
        obtain ⟨bx, hbx⟩ : ∃ bx, bx = w3.heap.size := ⟨_, rfl⟩
        rw [← hbx] at HX4
        have HBX := Lib.hid hbx
        obtain ⟨B, hB⟩ : ∃ B, B = W4.heap.size := ⟨_, rfl⟩
        have hbxB : bx < B := by rw [hB]; exact HX4.out.lt
        have HBB := Lib.hid hB
        have HBS : Hid (B = w3.heap.size + 1) := by unfold Hid; rw [hB, hW4]; simp
        obtain ⟨i0, hi, hz0, hz1, hz2⟩ := info_parts info_int20
        clear hb3 hok hrows hed hown hR hE hW4 hb4 e4 hbx hB hLL
        go_wp2_with (at_make; refine wpList_make_full _ rfl _ _ 60 rfl B 2 i0 _ 1 Tryz.underlying60 hi hz0 hz1 .i64 .i64 _ _ R rfl rfl rfl rfl ?_ ?_ ?_ ?_)
        · rw [hz2]; omega
        · simp [maxLen]; omega
        · rw [HBB.out, HW4.out]; exact Nat.le_refl _
        intro w5 ho hg
        rw [toList_madeCells_one] at ho
        rw [← HW4.out] at hg
        have hb5 : Below W4.heap.size W4 w5 := (Below.refl _ W4).grown hg (Nat.le_refl _) (fun _ h => by cases h)
        rw [← HBS.out] at ho ⊢
        rw [← HBB.out] at hb5
        have HB5 := Lib.hid hb5
        have HO5 : Hid (w5.ownsRow B 2 1 (.slice (some ⟨B, 0, none⟩) R R) R ((List.replicate R (0 : Int)).map (Value.int .i64))) := by
          unfold Hid; simpa using ho
        have c5 := cell_num HO5.out hr0
        have f5 := HO5.out.frozenAt 0
        have HO6 := Lib.hid (HO5.out.stored 0 (.int .i64 1)).1
        rw [← HBX.out]
        clear ho hg hb5
        go_wp2
        go_loopw [9, 10] (fun v9 v10 wr => ∃ (k g : Nat), v10 = .int .i64 k ∧ (k : Int) ≤ q ∧ v9 = .slice (some ⟨g, 0, none⟩) R R ∧ Below B W4 wr ∧ wr.ownsRow B 2 1 v9 R ((waysAt R st.edges k).map (Value.int .i64))) (fun _ v10 _ => q.toNat - (intOf v10).toNat)
        case atStart =>
          refine ⟨0, B, rfl, HR0.out.1, rfl, HB5.out.setCell (Nat.le_refl _) _, ?_⟩
          have := HO6.out
          rw [← List.map_set] at this
          exact this
        case round =>
          clear HO5 HO6 HB5 c5 f5
          obtain ⟨k, g, rfl, hkq, rfl, hbl, ho⟩ := hrel
          obtain ⟨wC, rfl⟩ : ∃ wC : World, wC = wr := ⟨_, rfl⟩
          have HBL := Lib.hid hbl
          have HO := Lib.hid ho
          have hsz := hbl.size
          rw [← HBB.out] at hsz
          have hbx2 : bx < wC.heap.size := by omega
          have HX := Lib.hid (HX4.out.belowB hbl hbxB)
          have hgw : g < wC.heap.size := (ho.lt g rfl).2
          have hwl : (waysAt R st.edges k).length = R := waysAt_len _ _ _
          clear hbl ho
          by_cases hlt : (k : Int) < q
          · have x0 := HX.out.cell 0 rfl
            have hk12 : (k : Int) < 12 := by have := HR0.out.2; omega
            go_wp2_with (at_make; refine wpList_make_full _ rfl _ _ 60 rfl wC.heap.size 2 i0 _ 1 Tryz.underlying60 hi hz0 hz1 .i64 .i64 _ _ R rfl rfl rfl rfl ?_ ?_ ?_ ?_)
            · rw [hz2]; omega
            · simp [maxLen]; omega
            · exact Nat.le_refl _
            intro w6 ho hg
            rw [toList_madeCells_one] at ho
            have hb6 : Below wC.heap.size wC w6 := (Below.refl _ wC).grown hg (Nat.le_refl _) (fun _ h => by cases h)
            obtain ⟨G, hG⟩ : ∃ G, G = wC.heap.size := ⟨_, rfl⟩
            rw [← hG] at ho ⊢ hb6 hbx2 hgw
            have HGG := Lib.hid hG
            have HB6 := Lib.hid hb6
            have HO6 : Hid (w6.ownsRow G 2 1 (.slice (some ⟨G, 0, none⟩) R R) R ((nextTo R st.edges (waysAt R st.edges k) 0).map (Value.int .i64))) := by
              unfold Hid; rw [nextTo_zero]; simpa using ho
            clear ho hg hG hb6 x0
            go_wp2
            go_loopw [12] (fun v12 w7 => ∃ m : Nat, m ≤ E ∧ v12 = .int .i64 m ∧ Below G wC w7 ∧ w7.ownsRow G 2 1 (.slice (some ⟨G, 0, none⟩) R R) R ((nextTo R st.edges (waysAt R st.edges k) m).map (Value.int .i64))) (fun v12 _ => E - (intOf v12).toNat)
            case atStart => exact ⟨0, Nat.zero_le _, rfl, HB6.out, HO6.out⟩
            case round =>
              clear HO6 HB6
              obtain ⟨m, hm, rfl, hb7, ho7⟩ := hrel
              have HB7 := Lib.hid hb7
              have HO7 := Lib.hid ho7
              have hG7 : G < wr.heap.size := (ho7.lt G rfl).2
              have hbx7 : bx < wr.heap.size := by omega
              have hg7 : g < wr.heap.size := by omega
              have HX7 := Lib.hid (HX.out.belowB hb7 hbx2)
              have HOW : Hid (wr.ownsRow B 2 1 (.slice (some ⟨g, 0, none⟩) R R) R ((waysAt R st.edges k).map (Value.int .i64))) := by
                have := HB7.out
                rw [HGG.out] at this
                exact owns_below HO.out this
              have x3 := later_cell hbx7 (HX7.out.cell 3 rfl)
              clear hb7 ho7
              by_cases hmE : m < E
              · have hme : m < st.edges.length := by rw [← HE.out]; exact hmE
                have hbw : Below W4.heap.size W4 wr := by
                  have h1 := HBL.out
                  rw [HBB.out] at h1
                  exact h1.trans (HB7.out.mono (by rw [HGG.out, ← HBB.out]; exact hsz))
                obtain ⟨be, rfl, hbe, e1, -, e3⟩ := own_edge20 (owns_below HED.out hbw) HE.out hme
                have hgd := HG.out.edges st.edges[m] (List.getElem_mem hme)
                rw [← HR.out] at hgd
                obtain ⟨e, hee⟩ : ∃ e, e = st.edges[m] := ⟨_, rfl⟩
                rw [← hee] at e1 e3 hgd
                obtain ⟨es, hes⟩ : ∃ es : Nat, (es : Int) = e.src := ⟨e.src.toNat, by omega⟩
                obtain ⟨ed, hed⟩ : ∃ ed : Nat, (ed : Int) = e.dst := ⟨e.dst.toNat, by omega⟩
                rw [← hes] at e1
                rw [← hed] at e3
                have hesR : es < R := by omega
                have hedR : ed < R := by omega
                have ia : (es : Int) < (R : Int) := by omega
                have ib : (ed : Int) < (R : Int) := by omega
                have cw := cell_num HOW.out hesR
                have cn := cell_num HO7.out hedR
                obtain ⟨a1, ha1⟩ : ∃ a1, a1 = (waysAt R st.edges k).getD es 0 := ⟨_, rfl⟩
                obtain ⟨a2, ha2⟩ : ∃ a2, a2 = (nextTo R st.edges (waysAt R st.edges k) m).getD ed 0 := ⟨_, rfl⟩
                rw [← ha1] at cw
                rw [← ha2] at cn
                have hstep : (nextTo R st.edges (waysAt R st.edges k) m).set ed (wrap64 (a2 + a1)) = nextTo R st.edges (waysAt R st.edges k) (m + 1) := by
                  rw [nextTo_succ hme, ← hee, ha1, ha2]
                  unfold addWay
                  rw [show e.src.toNat = es from by omega, show e.dst.toNat = ed from by omega]
                have HST := Lib.hid hstep
                have HA2 := Lib.hid ha2
                have le1 := later_cell hbe e1
                have le3 := later_cell hbe e3
                have lcw := later_cell hg7 cw
                have lcn := later_cell hG7 cn
                have x3n := HX7.out.cell 3 rfl
                clear hbw hgd hee hes hed e1 e3 cw cn ha1 ha2 hstep hme
                go_wp2
                refine wp_region_later_tail 20 (by kernel_rfl) (by kernel_rfl) ?_
                simp only [List.take_succ_cons, List.take_zero, List.drop_succ_cons, List.drop_zero]
                repeat (go_big_quiet_step ((fail)))
                refine wpQuiet_nil ?_
                intro _ hw9
                obtain ⟨nl, hw8⟩ := hw9
                subst hw8
                have HB8 := Lib.hid (HB7.out.trans (nl.h.mono (Nat.le_of_lt hG7)))
                have HO8 := Lib.hid (owns_below HO7.out nl.h)
                have c8 := cell_num HO8.out hedR
                rw [← HA2.out] at c8
                have f8 := HO8.out.frozenAt ed
                have ho9 := (HO8.out.stored ed (.int .i64 (wrap64 (a2 + a1)))).1
                rw [← List.map_set, HST.out] at ho9
                have HO9 := Lib.hid ho9
                clear le1 le3 lcw lcn x3n x3 ho9
                go_wp2
                go_roundw
                case rel => exact ⟨m + 1, by omega, by go_num, HB8.out.setCell (Nat.le_refl _) _, HO9.out⟩
                case measure => simp [intOf]; omega
              · have hmE2 : m = E := by omega
                subst hmE2
                have hw : nextTo R st.edges (waysAt R st.edges k) m = waysAt R st.edges (k + 1) := by rw [waysAt, HE.out]
                have HO8 : Hid (wr.ownsRow B 2 1 (.slice (some ⟨G, 0, none⟩) R R) R ((waysAt R st.edges (k + 1)).map (Value.int .i64))) := by
                  have := HO7.out
                  rw [hw] at this
                  exact own_lower this (by rw [HGG.out]; exact hsz)
                have HB8 := Lib.hid (HBL.out.trans (HB7.out.mono (by rw [HGG.out]; exact hsz)))
                have x3n := HX7.out.cell 3 rfl
                clear hw HO7 HB7 HX7 x3
                go_wp2
                go_roundw
                case rel => exact ⟨k + 1, G, by go_num, by omega, rfl, HB8.out, HO8.out⟩
                case measure => simp [intOf]; omega
          · have hkq2 : (k : Int) = q := by omega
            have hq := HR0.out
            have HBF := Lib.hid (HBW.out.trans (HBL.out.mono (by rw [HBB.out]; exact HBW.out.size)))
            obtain ⟨ws, hws⟩ : ∃ ws, ws = waysAt R st.edges k := ⟨_, rfl⟩
            rw [← hws] at HO hwl
            have HC : Hid (sumTo ws R = countOf st q.toNat) := by
              unfold Hid countOf
              rw [← HR.out, hws, show q.toNat = k from by omega]
            clear hkq2 hq hws
            go_wp2
            go_loop [13, 14] (fun v13 v14 => ∃ m : Nat, m ≤ R ∧ v14 = .int .i64 m ∧ v13 = .int .i64 (sumTo ws m)) (fun _ v14 => R - (intOf v14).toNat)
            case atStart => exact ⟨0, Nat.zero_le _, rfl, by rw [sumTo_zero]⟩
            case round =>
              obtain ⟨m, hm, rfl, rfl⟩ := hrel
              by_cases hmR : m < R
              · have cm := cell_num HO.out hmR
                have hml : m < ws.length := by omega
                rw [List.getD_eq_getElem?_getD, List.getElem?_eq_getElem hml, Option.getD_some] at cm
                have HS := Lib.hid (sumTo_succ hml)
                obtain ⟨x, hx⟩ : ∃ x, x = ws[m] := ⟨_, rfl⟩
                rw [← hx] at cm HS
                clear hx hml
                go_wp2
                go_round
                case rel => exact ⟨m + 1, by omega, by go_num, by rw [HS.out]⟩
                case measure => simp [intOf]; omega
              · have hmR2 : R = m := by omega
                subst hmR2
                go_wp2
                go_ret2
                exact ⟨HBF.out, _, 0, rfl, .inr (.inr (.inr ⟨HV.out, HR0.out, st, HOK.out, HC.out, rfl⟩))⟩
  · have HV := Lib.hid hv
    clear hv
    go_enter Tryz.func10, Tryz.ntmps10
    go_wp2_with fail
    rw [← HW.out]
    refine (Decides.no (l11Is_any _ lo t _ HSH.out HP.out) HV.out).mono ?_
    rintro e w1 ⟨rfl, hb1⟩
    have HB1 := Lib.hid hb1
    clear hb1
    go_wp2
    go_ret2
    exact ⟨HB0.out.trans (HB1.out.mono HB0.out.size), 0, 1, rfl, .inl ⟨HV.out, rfl, rfl⟩⟩

end Go.Proofs.YtbbffbnfppbibaaGreatDoor

namespace Go.Proofs.YtbbffbnfppbibaaGreatDoor
open Go Go.RowKit

def szS (ss : List ByteArray) (left : Int) : Int :=
  match ss with
  | [] => left
  | s :: r => if left - s.size < 0 then -1 else szS r (left - s.size)

theorem szS_lt (ss : List ByteArray) (left : Int) (h : 0 ≤ left) : -1 ≤ szS ss left ∧ szS ss left ≤ left := by
  induction ss generalizing left with
  | nil => simp [szS]; omega
  | cons s r ih =>
    unfold szS
    split
    · omega
    · have := ih (left - s.size) (by omega); omega

/-- What szStringS returns. -/
def szSS (ss : List ByteArray) (left : Int) : Int := if left - ss.length < 0 then -1 else szS ss (left - ss.length)
theorem szSS_neg {ss : List ByteArray} {left : Int} (h : left - ss.length < 0) : szSS ss left = -1 := by unfold szSS; rw [if_pos h]
theorem szSS_pos {ss : List ByteArray} {left : Int} (h : ¬ left - ss.length < 0) : szSS ss left = szS ss (left - ss.length) := by unfold szSS; rw [if_neg h]
def szN (n : Nat) (left : Int) : Int := if left - n < 0 then -1 else left - n
theorem szN_neg {n : Nat} {left : Int} (h : left - n < 0) : szN n left = -1 := by unfold szN; rw [if_pos h]
theorem szN_pos {n : Nat} {left : Int} (h : ¬ left - n < 0) : szN n left = left - n := by unfold szN; rw [if_neg h]

set_option maxHeartbeats 400000 in
theorem szStringS_any (v : Value) (lo : Nat) (ss : List ByteArray) (left : Int) (w : World)
   (h1 : 0 ≤ left) (h2 : left ≤ 1048576) (hs : StrsOk ss) (hv : SliceK 1 encS lo w v ss) :
    Calls Tryz.prog 35 #[v, .int .i64 left] w fun e w' => e = .returned (.int .i64 (szSS ss left)) ∧ w = w' := by
  have hS := Lib.hid hs
  clear hs
  obtain ⟨a, cap, rfl, hn, hcap, hr⟩ := hv
  by_cases hl : left - ss.length < 0
  · go_enter Tryz.func35, Tryz.ntmps35
    go_wp2
    go_ret
    exact ⟨ret_int (szSS_neg hl).symm, rfl⟩
  · go_enter Tryz.func35, Tryz.ntmps35
    go_wp2
    go_loop [1, 5] (fun t i => ∃ k : Nat, ∃ l : Int, k ≤ ss.length ∧ i = .int .i64 k ∧ t = .int .i64 l ∧ 0 ≤ l ∧ l ≤ 1048576 ∧ szS (ss.drop k) l = szS ss (left - ss.length)) (fun _ i => ss.length - (intOf i).toNat)
    case atStart => exact ⟨0, _, Nat.zero_le _, rfl, rfl, by omega, by omega, rfl⟩
    case round =>
      obtain ⟨k, l, hk, rfl, rfl, hl0, hl1, hs⟩ := hrel
      have hs' := Lib.hid hs
      clear hs
      by_cases hlt : k < ss.length
      · have hsk := hS.out _ (List.getElem_mem hlt)
        obtain ⟨b, off, rfl, -, -, hck⟩ := hr.one hlt
        simp only [encS, List.getElem?_cons_zero] at hck
        clear hr
        have hd : Hid (szS (ss.drop k) l = if l - (ss[k]).size < 0 then -1 else szS (ss.drop (k+1)) (l - (ss[k]).size)) := by
          unfold Hid; rw [List.drop_eq_getElem_cons hlt, szS]
        by_cases hz : l - (ss[k]).size < 0
        · go_wp2
          go_ret
          refine ⟨?_, rfl⟩
          exact ret_int (by rw [szSS_pos (by omega), ← hs'.out, hd.out, if_pos (by omega)])
        · go_wp2
          go_round
          case rel => exact ⟨k+1, _, by omega, by go_num, rfl, by omega, by omega, by rw [← hs'.out, hd.out, if_neg (by omega)]⟩
          case measure => simp [intOf]; omega
      · clear hr
        go_wp2
        go_ret
        refine ⟨?_, rfl⟩
        have : k = ss.length := by omega
        exact ret_int (by rw [szSS_pos (by omega), ← hs'.out]; simp [this, szS])

theorem szEdgeS_any (a : Option Addr) (cap n : Nat) (left : Int) (w : World) (h1 : 0 ≤ left) (h2 : left ≤ 1048576) (hn : n ≤ cap) (hcap : cap ≤ 9223372036854775807) :
    Calls Tryz.prog 36 #[.slice a n cap, .int .i64 left] w fun e w' => e = .returned (.int .i64 (szN n left)) ∧ w = w' := by
  by_cases hl : left - n < 0
  · go_enter Tryz.func36, Tryz.ntmps36
    go_wp2
    go_ret
    exact ⟨ret_int (szN_neg hl).symm, rfl⟩
  · go_enter Tryz.func36, Tryz.ntmps36
    go_wp2
    go_ret
    exact ⟨ret_int (szN_pos (by omega)).symm, rfl⟩

/-- What szLts returns. -/
def szL (t : Lts) (left : Int) : Int :=
  if szSS t.labels left < 0 then -1
  else if szN t.edges.length (szSS t.labels left) < 0 then -1
  else szN t.edges.length (szSS t.labels left)

theorem szSS_le (ss : List ByteArray) (left : Int) (h : 0 ≤ left) : -1 ≤ szSS ss left ∧ szSS ss left ≤ left := by
  unfold szSS
  split
  · omega
  · have := szS_lt ss (left - ss.length) (by omega); omega

set_option maxHeartbeats 400000 in
theorem szLts_any (v : Value) (lo : Nat) (t : Lts) (left : Int) (w : World)
   (h1 : 0 ≤ left) (h2 : left ≤ 1048576) (hs : StrsOk t.labels) (hv : LtsAt lo w v t) :
    Calls Tryz.prog 9 #[v, .int .i64 left] w
      fun e w' => e = .returned (.int .i64 (szL t left)) ∧ Below w.heap.size w w' := by
  have hb := szSS_le t.labels left h1
  have hS := Lib.hid hs
  clear hs
  obtain ⟨lv, ev, rfl, hl, ae, ce, rfl, hn, hcap, hr⟩ := hv
  go_enter Tryz.func9, Tryz.ntmps9
  go_wp2_with fail
  refine (szStringS_any _ _ _ _ _ h1 h2 hS.out (hl.below ((Below.refl _ w).alloc (Nat.le_refl _) _))).mono ?_
  clear hl hr
  rintro e w' ⟨rfl, rfl⟩
  have hf : Hid (szL t left = if szSS t.labels left < 0 then -1 else if szN t.edges.length (szSS t.labels left) < 0 then -1 else szN t.edges.length (szSS t.labels left)) := rfl
  generalize szSS t.labels left = q at *
  by_cases hl : q < 0
  · go_wp2_with fail
    go_ret
    exact ⟨ret_int (by rw [hf.out, if_pos hl]), (Below.refl _ _).alloc (Nat.le_refl _) _⟩
  · go_wp2_with fail
    refine (szEdgeS_any _ _ _ _ _ (by omega) (by omega) hn hcap).mono ?_
    rintro e w' ⟨rfl, rfl⟩
    generalize szN t.edges.length q = q2 at *
    by_cases hl2 : q2 < 0
    · go_wp2_with fail
      go_ret
      exact ⟨ret_int (by rw [hf.out, if_neg (by omega), if_pos (by omega)]), (Below.refl _ _).alloc (Nat.le_refl _) _⟩
    · go_wp2_with fail
      go_ret
      exact ⟨ret_int (by rw [hf.out, if_neg (by omega), if_neg (by omega)]), (Below.refl _ _).alloc (Nat.le_refl _) _⟩

set_option maxHeartbeats 400000 in
theorem eqStringS_same (va vb : Value) (lo lo' : Nat) (xs : List ByteArray) (w : World) (hva : SliceK 1 encS lo w va xs) (hvb : SliceK 1 encS lo' w vb xs) :
    Calls Tryz.prog 28 #[va, vb] w fun e w' => e = .returned (.bool true) ∧ Below w.heap.size w w' := by
  obtain ⟨a, ca, rfl, hna, hca, ha⟩ := hva
  obtain ⟨b, cb, rfl, hnb, hcb, hb⟩ := hvb
  go_enter Tryz.func28, Tryz.ntmps28
  go_wp2
  go_loopw [5] (fun i wr => ∃ k : Nat, k ≤ xs.length ∧ i = .int .i64 k ∧ Below w.heap.size w wr) (fun i _ => xs.length - (intOf i).toNat)
  case atStart => exact ⟨0, Nat.zero_le _, rfl, Below.refl _ _⟩
  case round =>
    obtain ⟨k, hk, rfl, hbl⟩ := hrel
    by_cases hlt : k < xs.length
    · obtain ⟨b1, o1, rfl, -, h1, c1⟩ := ha.one hlt
      obtain ⟨b2, o2, rfl, -, h2, c2⟩ := hb.one hlt
      simp only [encS, List.getElem?_cons_zero] at c1 c2
      replace c1 := keeps hbl h1 c1
      replace c2 := keeps hbl h2 c2
      clear ha hb
      go_wp2
      go_quiet (fail)
      go_wp2
      go_roundw
      case rel => exact ⟨k + 1, by omega, by go_num, drews hbl _⟩
      case measure => simp [intOf]; omega
    · clear ha hb
      go_wp2
      go_ret
      exact ⟨rfl, hbl⟩

set_option maxHeartbeats 400000 in
theorem eqEdge_same (x y z : Int) (w : World) :
    Calls Tryz.prog 69 #[.agg #[.int .i64 x, .int .i64 y, .int .i64 z], .agg #[.int .i64 x, .int .i64 y, .int .i64 z]] w fun e w' => e = .returned (.bool true) ∧ Below w.heap.size w w' := by
  go_enter Tryz.func69, Tryz.ntmps69
  go_wp2
  go_ret
  exact ⟨rfl, ((Below.refl _ _).alloc (Nat.le_refl _) _).alloc (by simp) _⟩

set_option maxHeartbeats 400000 in
theorem eqEdgeS_same (va vb : Value) (lo lo' : Nat) (xs : List Edge) (w : World) (hva : SliceK 3 encE lo w va xs) (hvb : SliceK 3 encE lo' w vb xs) :
    Calls Tryz.prog 43 #[va, vb] w fun e w' => e = .returned (.bool true) ∧ Below w.heap.size w w' := by
  obtain ⟨a, ca, rfl, hna, hca, ha⟩ := hva
  obtain ⟨b, cb, rfl, hnb, hcb, hb⟩ := hvb
  go_enter Tryz.func43, Tryz.ntmps43
  go_wp2
  go_loopw [5] (fun i wr => ∃ k : Nat, k ≤ xs.length ∧ i = .int .i64 k ∧ Below w.heap.size w wr) (fun i _ => xs.length - (intOf i).toNat)
  case atStart => exact ⟨0, Nat.zero_le _, rfl, Below.refl _ _⟩
  case round =>
    obtain ⟨k, hk, rfl, hbl⟩ := hrel
    by_cases hlt : k < xs.length
    · obtain ⟨b1, o1, rfl, -, h1, c1, c2, c3⟩ := (ha.below hbl).edge hlt
      obtain ⟨b2, o2, rfl, -, h2, c4, c5, c6⟩ := (hb.below hbl).edge hlt
      replace c1 := later_cell h1 c1
      replace c2 := later_cell h1 c2
      replace c3 := later_cell h1 c3
      replace c4 := later_cell h2 c4
      replace c5 := later_cell h2 c5
      replace c6 := later_cell h2 c6
      clear ha hb
      go_wp2
      refine wp_region_later (by kernel_rfl) (by kernel_rfl) ?_
      repeat (go_big_quiet_step ((go_at_call 69; exact later_call (eqEdge_same _ _ _ _))))
      refine wpQuiet_nil ?_
      intro _ hw9
      obtain ⟨nl, hw8⟩ := hw9
      subst hw8
      go_wp2
      go_roundw
      case rel => exact ⟨k + 1, by omega, by go_num, hbl.trans (nl.h.mono hbl.size)⟩
      case measure => simp [intOf]; omega
    · clear ha hb
      go_wp2
      go_ret
      exact ⟨rfl, hbl⟩

set_option maxHeartbeats 400000 in
theorem eqLts_same (va vb : Value) (lo lo' : Nat) (t : Lts) (w : World) (hva : LtsAt lo w va t) (hvb : LtsAt lo' w vb t) :
    Calls Tryz.prog 13 #[va, vb] w fun e w' => e = .returned (.bool true) ∧ Below w.heap.size w w' := by
  obtain ⟨la, ea, rfl, h1, h2⟩ := hva
  obtain ⟨lb, eb, rfl, h3, h4⟩ := hvb
  have hw0 : ∀ o1 o2, Below w.heap.size w ((w.alloc o1).alloc o2) := fun _ _ => ((Below.refl _ _).alloc (Nat.le_refl _) _).alloc (by simp) _
  have H0 := Lib.hid hw0
  have H1 := Lib.hid h1
  have H2 := Lib.hid h2
  have H3 := Lib.hid h3
  have H4 := Lib.hid h4
  clear hw0
  obtain ⟨_, _, rfl, -⟩ := h1
  obtain ⟨_, _, rfl, -⟩ := h2
  obtain ⟨_, _, rfl, -⟩ := h3
  obtain ⟨_, _, rfl, -⟩ := h4
  go_enter Tryz.func13, Tryz.ntmps13
  go_wp2_with fail
  refine (eqStringS_same _ _ _ _ _ _ (SliceK.below H1.out (H0.out _ _)) (SliceK.below H3.out (H0.out _ _))).mono ?_
  rintro e w1 ⟨rfl, hb1⟩
  obtain ⟨hc1, -⟩ := both hb1
  have hz := hb1.size
  simp only [World.size_alloc] at hz
  go_wp2_with fail
  refine (eqEdgeS_same _ _ _ _ _ _ (SliceK.below H2.out ((H0.out _ _).trans (hb1.mono (by simp; omega)))) (SliceK.below H4.out ((H0.out _ _).trans (hb1.mono (by simp; omega))))).mono ?_
  rintro e w2 ⟨rfl, hb2⟩
  go_wp2_with fail
  go_ret
  exact ⟨rfl, (H0.out _ _).trans ((hb1.mono (by simp; omega)).trans (hb2.mono (by omega)))⟩

end Go.Proofs.YtbbffbnfppbibaaGreatDoor

namespace Go.Proofs.YtbbffbnfppbibaaGreatDoor
open Go Go.RowKit

theorem info_string : (Tryz.prog.info? 9).map (fun i => (i.zero, i.size, i.bytes)) = some (some (.string ⟨#[]⟩), 1, 16) := by kernel_rfl
theorem info_edge : (Tryz.prog.info? 62).map (fun i => (i.zero, i.size, i.bytes)) = some (some (.agg #[.int .i64 0, .int .i64 0, .int .i64 0]), 3, 24) := by kernel_rfl

def MadeStrs (w : World) (ss : List ByteArray) (e : Ending) (w' : World) : Prop :=
  e = .returned (.slice (some ⟨w.heap.size, 0, none⟩) ss.length ss.length) ∧ Below w.heap.size w w' ∧ w.heap.size < w'.heap.size ∧ w'.ownsRow w.heap.size 9 1 (.slice (some ⟨w.heap.size, 0, none⟩) ss.length ss.length) ss.length (ss.map .string)

set_option maxHeartbeats 400000 in
theorem toStringS_any (v : Value) (lo : Nat) (ss : List ByteArray) (w : World) (hn : ss.length ≤ 1048576) (hv : SliceK 1 encS lo w v ss) :
    Calls Tryz.prog 40 #[v] w (MadeStrs w ss) := by
  obtain ⟨a, ca, rfl, hna, hca, ha⟩ := hv
  obtain ⟨i0, hi, hz0, hz1, hz2⟩ := info_parts info_string
  go_enter Tryz.func40, Tryz.ntmps40
  go_wp2_with (at_make; refine wpList_make_full _ rfl _ _ 22 rfl w.heap.size 9 i0 _ 1 Tryz.underlying22 hi hz0 hz1 .i64 .i64 _ _ ss.length rfl rfl rfl rfl ?_ ?_ ?_ ?_)
  · rw [hz2]; omega
  · simp [maxLen]; omega
  · exact Nat.le_refl _
  · intro w1 ho hg
    rw [toList_madeCells_one] at ho
    have hb1 : Below w.heap.size w w1 := (Below.refl _ w).grown hg (Nat.le_refl _) (fun _ h => by cases h)
    clear hi hz0 hz1 hz2 i0
    have HO := Lib.hid ho
    clear ho hg
    go_wp2
    go_loopw [4] (fun i wr => ∃ k : Nat, k ≤ ss.length ∧ i = .int .i64 k ∧ Below w.heap.size w wr ∧ wr.ownsRow w.heap.size 9 1 (.slice (some ⟨w.heap.size, 0, none⟩) ss.length ss.length) ss.length ((ss.take k).map .string ++ List.replicate (ss.length - k) (.string ⟨#[]⟩))) (fun i _ => ss.length - (intOf i).toNat)
    case atStart => exact ⟨0, Nat.zero_le _, rfl, hb1, by simpa using HO.out⟩
    case round =>
      obtain ⟨k, hk, rfl, hbl, ho⟩ := hrel
      clear HO hb1
      by_cases hlt : k < ss.length
      · obtain ⟨b1, o1, rfl, -, h1, c1⟩ := (ha.below hbl).one hlt
        simp only [encS, List.getElem?_cons_zero] at c1
        have c2 := ho.cellAt k (by omega)
        rw [filled_get _ _ _ _ hlt] at c2
        have c3 := ho.frozenAt k
        have ho2 := ho.stored k (.string ss[k])
        rw [filled_set _ _ _ _ hlt] at ho2
        have HO := Lib.hid ho2
        clear ho ho2 ha
        go_wp2
        go_roundw
        case rel => exact ⟨k + 1, by omega, by go_num, hbl.setCell (by exact Nat.le_refl _) _, HO.out.1⟩
        case measure => simp [intOf]; omega
      · clear ha
        go_wp2
        go_ret
        have hke : k = ss.length := by omega
        subst hke
        exact ⟨rfl, hbl, (ho.lt _ rfl).2, by simpa using ho⟩

def RetEdge (w : World) (x y z : Int) (e : Ending) (w' : World) : Prop := e = .returned (.agg #[.int .i64 x, .int .i64 y, .int .i64 z]) ∧ Below w.heap.size w w'

set_option maxHeartbeats 400000 in
theorem toEdge_any (x y z : Int) (w : World) : Calls Tryz.prog 67 #[.agg #[.int .i64 x, .int .i64 y, .int .i64 z]] w (RetEdge w x y z) := by
  go_enter Tryz.func67, Tryz.ntmps67
  go_wp2
  refine bodyPost_ret (v := .agg #[.int .i64 x, .int .i64 y, .int .i64 z]) (by simp [results, Tryz.results67, go_sem]) rfl ⟨rfl, ?_⟩
  repeat (first | exact Below.refl _ _ | refine Below.setCell ?_ (by simp) _ | refine Below.alloc ?_ (by simp; try omega) _)

def MadeEdges (w : World) (es : List Edge) (e : Ending) (w' : World) : Prop :=
  e = .returned (.slice (some ⟨w.heap.size, 0, none⟩) es.length es.length) ∧ Below w.heap.size w w' ∧ w.heap.size < w'.heap.size ∧ w'.ownsRow w.heap.size 62 3 (.slice (some ⟨w.heap.size, 0, none⟩) es.length es.length) es.length (es.flatMap encE)

set_option maxHeartbeats 1000000 in
theorem toEdgeS_any (v : Value) (lo : Nat) (es : List Edge) (w : World) (hn : es.length ≤ 1048576) (hv : SliceK 3 encE lo w v es) :
    Calls Tryz.prog 41 #[v] w (MadeEdges w es) := by
  obtain ⟨a, ca, rfl, hna, hca, ha⟩ := hv
  obtain ⟨i0, hi, hz0, hz1, hz2⟩ := info_parts info_edge
  go_enter Tryz.func41, Tryz.ntmps41
  go_wp2_with (at_make; refine wpList_make_full _ rfl _ _ 29 rfl w.heap.size 62 i0 _ 3 Tryz.underlying29 hi hz0 hz1 .i64 .i64 _ _ es.length rfl rfl rfl rfl ?_ ?_ ?_ ?_)
  · rw [hz2]; omega
  · simp [maxLen]; omega
  · exact Nat.le_refl _
  · intro w1 ho hg
    have hb1 : Below w.heap.size w w1 := (Below.refl _ w).grown hg (Nat.le_refl _) (fun _ h => by cases h)
    have ho1 : w1.ownsRow w.heap.size 62 3 (.slice (some ⟨w.heap.size, 0, none⟩) es.length es.length) es.length (List.replicate (es.length * 3) (.int .i64 0)) := by
      have : (madeCells #[.int .i64 0, .int .i64 0, .int .i64 0] (es.length * 3)).toList = List.replicate (es.length * 3) (Value.int .i64 0) := by
        apply List.ext_getElem?
        intro j
        by_cases hj : j < es.length * 3
        · have h3 : j % 3 < 3 := Nat.mod_lt _ (by omega)
          simp only [madeCells, Array.toList_map, Array.toList_range, List.getElem?_map, List.getElem?_range hj, List.getElem?_replicate, if_pos hj, Option.map_some]
          show some (#[Value.int IntKind.i64 0, Value.int IntKind.i64 0, Value.int IntKind.i64 0][j % 3]!) = _
          generalize j % 3 = q at h3
          match q, h3 with
          | 0, _ => rfl
          | 1, _ => rfl
          | 2, _ => rfl
        · simp [madeCells, hj]
      rw [this] at ho
      exact ho
    clear hi hz0 hz1 hz2 i0
    have HO := Lib.hid ho1
    clear ho hg ho1
    go_wp2
    go_loopw [4] (fun i wr => ∃ k : Nat, k ≤ es.length ∧ i = .int .i64 k ∧ Below w.heap.size w wr ∧ w.heap.size < wr.heap.size ∧ wr.ownsRow w.heap.size 62 3 (.slice (some ⟨w.heap.size, 0, none⟩) es.length es.length) es.length ((es.take k).flatMap encE ++ List.replicate ((es.length - k) * 3) (.int .i64 0))) (fun i _ => es.length - (intOf i).toNat)
    case atStart => exact ⟨0, Nat.zero_le _, rfl, hb1, (HO.out.lt _ rfl).2, by simpa using HO.out⟩
    case round =>
      obtain ⟨k, hk, rfl, hbl, hsz, ho⟩ := hrel
      clear HO hb1
      by_cases hlt : k < es.length
      · obtain ⟨b1, o1, rfl, -, h1, c1, c2, c3⟩ := (ha.below hbl).edge hlt
        have HO := Lib.hid ho
        clear ho ha
        go_wp2_with fail
        refine (toEdge_any _ _ _ _).mono ?_
        rintro e w2 ⟨rfl, hb2⟩
        have ho := owns_below HO.out hb2
        clear c1 c2 c3
        have d0 := (ho.cellAt (k * 3) (by omega)).trans (filledE_get _ _ _ 0 hlt (by omega))
        have s0 := (ho.stored (k * 3) (.int .i64 es[k].src)).1
        have d1 := s0.cellAt (k * 3 + 1) (by omega)
        rw [List.getElem?_set_ne (by omega), filledE_get _ _ _ _ hlt (by omega)] at d1
        have s1 := (s0.stored (k * 3 + 1) (.int .i64 es[k].lab)).1
        have d2 := s1.cellAt (k * 3 + 2) (by omega)
        rw [List.getElem?_set_ne (by omega), List.getElem?_set_ne (by omega), filledE_get _ _ _ _ hlt (by omega)] at d2
        have g1 := ho.cellAt (k * 3 + 1) (by omega)
        rw [filledE_get _ _ _ _ hlt (by omega)] at g1
        have g2 := ho.cellAt (k * 3 + 2) (by omega)
        rw [filledE_get _ _ _ _ hlt (by omega)] at g2
        have f0 := ho.frozenAt (k * 3)
        have f3 := ho.frozenAt (k * 3 + 1)
        have f4 := ho.frozenAt (k * 3 + 2)
        have f1 := s0.frozenAt (k * 3 + 1)
        have f2 := s1.frozenAt (k * 3 + 2)
        have ho2 := (s1.stored (k * 3 + 2) (.int .i64 es[k].dst)).1
        rw [filledE_set _ _ _ hlt] at ho2
        clear s0 s1
        have HO2 := Lib.hid ho2
        have hsz2 := hb2.size
        clear ho ho2 HO
        go_wp2
        go_roundw
        case rel => exact ⟨k + 1, by omega, by go_num, (((hbl.trans (hb2.mono hbl.size)).setCell (by exact Nat.le_refl _) _).setCell (by exact Nat.le_refl _) _).setCell (by exact Nat.le_refl _) _, by simp; omega, HO2.out⟩
        case measure => simp [intOf]; omega
      · clear ha
        go_wp2
        go_ret
        have hke : k = es.length := by omega
        subst hke
        exact ⟨rfl, hbl, (ho.lt _ rfl).2, by simpa using ho⟩

/-- A copy of a system, in memory of the call's own: its labels lie in one new block, its edges in a later one. -/
def MadeLts (w : World) (t : Lts) (e : Ending) (w' : World) : Prop :=
  ∃ b1 b2, e = .returned (.agg #[.int .i64 t.states, .int .i64 t.initial, .slice (some ⟨b1, 0, none⟩) t.labels.length t.labels.length, .slice (some ⟨b2, 0, none⟩) t.edges.length t.edges.length]) ∧ Below w.heap.size w w' ∧ w.heap.size ≤ b1 ∧ b1 < b2 ∧ b2 < w'.heap.size
    ∧ w'.ownsRow w.heap.size 9 1 (.slice (some ⟨b1, 0, none⟩) t.labels.length t.labels.length) t.labels.length (t.labels.map .string) ∧ w'.ownsRow b2 62 3 (.slice (some ⟨b2, 0, none⟩) t.edges.length t.edges.length) t.edges.length (t.edges.flatMap encE)

set_option maxHeartbeats 1000000 in
theorem toLts_any (v : Value) (lo : Nat) (t : Lts) (w : World) (hl : t.labels.length ≤ 1048576) (he : t.edges.length ≤ 1048576) (hv : LtsAt lo w v t) :
    Calls Tryz.prog 11 #[v] w (MadeLts w t) := by
  obtain ⟨lv, ev, rfl, h1, h2⟩ := hv
  have H1 := Lib.hid h1
  have H2 := Lib.hid h2
  obtain ⟨_, _, rfl, -⟩ := h1
  obtain ⟨_, _, rfl, -⟩ := h2
  have H0 : Hid (∀ o1 o2 o3, Below w.heap.size w (((w.alloc o1).alloc o2).alloc o3)) := fun _ _ _ => (((Below.refl _ _).alloc (Nat.le_refl _) _).alloc (by simp) _).alloc (by simp; omega) _
  go_enter Tryz.func11, Tryz.ntmps11
  go_wp2_with fail
  refine (toStringS_any _ _ _ _ hl (SliceK.below H1.out (H0.out _ _ _))).mono ?_
  rintro e w1 ⟨rfl, hb1, hs1, ho1⟩
  have B2 := Lib.hid ((Blk.new ((w.alloc _).alloc _) [.int .i64 t.states, .int .i64 t.initial, .slice none 0 0, .slice none 0 0] 31).below hb1)
  have B1 := Lib.hid (((Blk.new (w.alloc _) [.int .i64 0, .int .i64 0, .slice none 0 0, .slice none 0 0] 31).alloc _).below hb1)
  have B0 := Lib.hid ((((Blk.new w [.int .i64 t.states, .int .i64 t.initial, _, _] 25).alloc _).alloc _).below hb1)
  have hz := hb1.size
  simp only [World.size_alloc] at hz hs1 B1 B2 B0
  have HB1 := Lib.hid ((H0.out _ _ _).trans (hb1.mono (B' := w.heap.size) (by simp; omega)))
  have HO1 := Lib.hid ho1
  clear hb1 ho1
  have b3 := B0.out.cell 3 rfl
  have c2 := B2.out.cell 2 rfl
  have f2 := B2.out.frozen 2
  simp only [World.size_alloc] at HO1
  go_wp2_with fail
  have HB2 := Lib.hid (HB1.out.setCell (p := ⟨w.heap.size + 1 + 1, 2, none⟩) (by simp; omega) (.slice (some ⟨w.heap.size + 1 + 1 + 1, 0, none⟩) t.labels.length t.labels.length))
  refine (toEdgeS_any _ _ _ _ he (SliceK.below H2.out HB2.out)).mono ?_
  rintro e w2 ⟨rfl, hb2, hs2, ho2⟩
  have C2 := Lib.hid ((B2.out.set 2 (.slice (some ⟨w.heap.size + 1 + 1 + 1, 0, none⟩) t.labels.length t.labels.length)).below hb2)
  have C1 := Lib.hid ((B1.out.setOther ⟨w.heap.size + 1 + 1, 2, none⟩ (.slice (some ⟨w.heap.size + 1 + 1 + 1, 0, none⟩) t.labels.length t.labels.length) (by simp)).below hb2)
  have HB3 := Lib.hid (HB2.out.trans (hb2.mono (B' := w.heap.size) (by simp; omega)))
  have HO1' := Lib.hid (owns_below (owns_setOther HO1.out ⟨w.heap.size + 1 + 1, 2, none⟩ (.slice (some ⟨w.heap.size + 1 + 1 + 1, 0, none⟩) t.labels.length t.labels.length) (by simp [Value.ownBlock])) hb2)
  have HO2 := Lib.hid ho2
  simp only [World.size_setCell] at hs2 HO2
  clear hb2 ho2 c2 f2 B1 B2 HB1 HO1 b3 B0
  have d0 := C2.out.cell 0 rfl
  have d1 := C2.out.cell 1 rfl
  have d2 := C2.out.cell 2 rfl
  have d3 := C2.out.cell 3 rfl
  have f3 := C2.out.frozen 3
  have e0 := C1.out.cell 0 rfl
  have e1 := C1.out.cell 1 rfl
  have e2 := C1.out.cell 2 rfl
  have e3 := C1.out.cell 3 rfl
  have g0 := C1.out.frozen 0
  have g1 := C1.out.frozen 1
  have g2 := C1.out.frozen 2
  have g3 := C1.out.frozen 3
  simp only [World.size_setCell]
  go_wp2_with fail
  refine bodyPost_ret (v := .agg #[.int .i64 t.states, .int .i64 t.initial, .slice (some ⟨w.heap.size + 1 + 1 + 1, 0, none⟩) t.labels.length t.labels.length, .slice (some ⟨w1.heap.size, 0, none⟩) t.edges.length t.edges.length])
    (by simp [results, Tryz.results11, go_sem, e0, e1, e2, e3]) rfl ⟨w.heap.size + 1 + 1 + 1, w1.heap.size, rfl, ?_, by omega, by omega, by simp; omega, ?_, ?_⟩
  · exact ((((HB3.out.setCell (by simp; omega) _).setCell (by simp) _).setCell (by simp) _).setCell (by simp) _).setCell (by simp) _
  · obtain ⟨q1, ⟨q2, q3⟩ | ⟨q4, q5, q6, q7, q8, q9⟩⟩ := (owns_setOther (owns_setOther (owns_setOther (owns_setOther (owns_setOther HO1'.out ⟨w.heap.size + 1 + 1, 3, none⟩ (.slice (some ⟨w1.heap.size, 0, none⟩) t.edges.length t.edges.length) (by simp [Value.ownBlock]; try omega)) ⟨w.heap.size + 1, 0, none⟩ (.int .i64 t.states) (by simp [Value.ownBlock]; try omega)) ⟨w.heap.size + 1, 1, none⟩ (.int .i64 t.initial) (by simp [Value.ownBlock]; try omega)) ⟨w.heap.size + 1, 2, none⟩ (.slice (some ⟨w.heap.size + 1 + 1 + 1, 0, none⟩) t.labels.length t.labels.length) (by simp [Value.ownBlock]; try omega)) ⟨w.heap.size + 1, 3, none⟩ (.slice (some ⟨w1.heap.size, 0, none⟩) t.edges.length t.edges.length) (by simp [Value.ownBlock]; try omega))
    · simp at q2
    · exact ⟨q1, .inr ⟨q4, q5, q6, q7, by omega, q9⟩⟩
  · exact owns_setOther (owns_setOther (owns_setOther (owns_setOther (owns_setOther HO2.out _ _ (by simp [Value.ownBlock]; try omega)) _ _ (by simp [Value.ownBlock]; try omega)) _ _ (by simp [Value.ownBlock]; try omega)) _ _ (by simp [Value.ownBlock]; try omega)) _ _ (by simp [Value.ownBlock]; try omega)

end Go.Proofs.YtbbffbnfppbibaaGreatDoor

namespace Go.Proofs.YtbbffbnfppbibaaGreatDoor
open Go Go.RowKit

set_option maxHeartbeats 400000 in
theorem eqInt64S_same (va vb : Value) (lo lo' : Nat) (xs : List Int) (w : World) (hva : SliceK 1 encI lo w va xs) (hvb : SliceK 1 encI lo' w vb xs) :
    Calls Tryz.prog 46 #[va, vb] w fun e w' => e = .returned (.bool true) ∧ Below w.heap.size w w' := by
  obtain ⟨a, ca, rfl, hna, hca, ha⟩ := hva
  obtain ⟨b, cb, rfl, hnb, hcb, hb⟩ := hvb
  go_enter Tryz.func46, Tryz.ntmps46
  go_wp2
  go_loopw [5] (fun i wr => ∃ k : Nat, k ≤ xs.length ∧ i = .int .i64 k ∧ Below w.heap.size w wr) (fun i _ => xs.length - (intOf i).toNat)
  case atStart => exact ⟨0, Nat.zero_le _, rfl, Below.refl _ _⟩
  case round =>
    obtain ⟨k, hk, rfl, hbl⟩ := hrel
    by_cases hlt : k < xs.length
    · obtain ⟨b1, o1, rfl, -, h1, c1⟩ := ha.one hlt
      obtain ⟨b2, o2, rfl, -, h2, c2⟩ := hb.one hlt
      simp only [encI, List.getElem?_cons_zero] at c1 c2
      replace c1 := keeps hbl h1 c1
      replace c2 := keeps hbl h2 c2
      clear ha hb
      go_wp2
      go_quiet (fail)
      go_wp2
      go_roundw
      case rel => exact ⟨k + 1, by omega, by go_num, drews hbl _⟩
      case measure => simp [intOf]; omega
    · clear ha hb
      go_wp2
      go_ret
      exact ⟨rfl, hbl⟩

end Go.Proofs.YtbbffbnfppbibaaGreatDoor

namespace Go.Proofs.YtbbffbnfppbibaaGreatDoor
open Go Go.RowKit

set_option maxHeartbeats 400000 in
theorem eqInt64SS_same (va vb : Value) (lo lo' : Nat) (xss : List (List Int)) (w : World) (hva : IntssAt lo w va xss) (hvb : IntssAt lo' w vb xss) :
    Calls Tryz.prog 16 #[va, vb] w fun e w' => e = .returned (.bool true) ∧ Below w.heap.size w w' := by
  obtain ⟨us, hu, ⟨a, ca, rfl, hna, hca, ha⟩, hus⟩ := hva
  obtain ⟨vs, hv, ⟨b, cb, rfl, hnb, hcb, hb⟩, hvs⟩ := hvb
  have HU := Lib.hid hus
  have HV := Lib.hid hvs
  have HL := Lib.hid hu
  have HM := Lib.hid hv
  have hl : us.length = vs.length := by omega
  rw [← hl] at hnb ⊢
  have HN := Lib.hid hl
  clear hu hv hus hvs hl
  go_enter Tryz.func16, Tryz.ntmps16
  go_wp2
  go_loopw [5] (fun i wr => ∃ k : Nat, k ≤ us.length ∧ i = .int .i64 k ∧ Below w.heap.size w wr) (fun i _ => us.length - (intOf i).toNat)
  case atStart => exact ⟨0, Nat.zero_le _, rfl, Below.refl _ _⟩
  case round =>
    obtain ⟨k, hk, rfl, hbl⟩ := hrel
    by_cases hlt : k < us.length
    · have hlv : k < vs.length := by have := HN.out; omega
      have hlx : k < xss.length := by have := HL.out; omega
      obtain ⟨b1, o1, rfl, -, h1, c1⟩ := (ha.below hbl).one hlt
      obtain ⟨b2, o2, rfl, -, h2, c2⟩ := (hb.below hbl).one hlv
      have s1 := (HU.out k hlt hlx).below hbl
      have s2 := (HV.out k hlv hlx).below hbl
      generalize us[k] = p1 at *
      generalize vs[k] = p2 at *
      generalize xss[k] = ys at *
      have S1 := Lib.hid s1
      have S2 := Lib.hid s2
      obtain ⟨_, _, rfl, -⟩ := s1
      obtain ⟨_, _, rfl, -⟩ := s2
      simp only [encV, List.getElem?_cons_zero] at c1 c2
      replace c1 := later_cell h1 c1
      replace c2 := later_cell h2 c2
      clear ha hb
      go_wp2
      refine wp_region_later (by kernel_rfl) (by kernel_rfl) ?_
      repeat (go_big_quiet_step ((go_at_call 46; exact later_call (eqInt64S_same _ _ _ _ _ _ (SliceK.below S1.out (Later.h _)) (SliceK.below S2.out (Later.h _))))))
      refine wpQuiet_nil ?_
      intro _ hw9
      obtain ⟨nl, hw8⟩ := hw9
      subst hw8
      go_wp2
      go_roundw
      case rel => exact ⟨k + 1, by omega, by go_num, hbl.trans (nl.h.mono hbl.size)⟩
      case measure => simp [intOf]; omega
    · clear ha hb
      go_wp2
      go_ret
      exact ⟨rfl, hbl⟩

end Go.Proofs.YtbbffbnfppbibaaGreatDoor
