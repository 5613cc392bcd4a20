/-
  What the implementation's IsDeterministicLts computes.
-/
import Derived.Test.YtkffdamgekoifaaGreatDoorImpl9
namespace Go.Proofs.YtkffdamgekoifaaGreatDoor
open Go Go.RowKit

theorem Valid_yes {lo : Nat} {t : Lts} {lv ev : Value} {w : World} (hv : Valid t) (hsh : Short20 t.labels) (hl : SliceK 1 encS lo w lv t.labels) (he : SliceK 3 encE lo w ev t.edges) (g : Glob w) :
    Calls Tryz.prog 61 #[.agg #[.int .i64 t.states, .int .i64 t.initial, lv, ev]] w fun e w' => e = .returned (.bool true) ∧ Below w.heap.size w w' :=
  Decides.yes (ValidLts_any lo t lv ev w hsh hl he g) hv
theorem Valid_no {lo : Nat} {t : Lts} {lv ev : Value} {w : World} (hv : ¬ Valid t) (hsh : Short20 t.labels) (hl : SliceK 1 encS lo w lv t.labels) (he : SliceK 3 encE lo w ev t.edges) (g : Glob w) :
    Calls Tryz.prog 61 #[.agg #[.int .i64 t.states, .int .i64 t.initial, lv, ev]] w fun e w' => e = .returned (.bool false) ∧ Below w.heap.size w w' :=
  Decides.no (ValidLts_any lo t lv ev w hsh hl he g) hv

theorem box_below (w : World) (a : Array Value) (T : TypeId) : Below w.heap.size w (w.alloc (.cells a T)) := (Below.refl _ _).alloc (Nat.le_refl _) _

set_option maxRecDepth 100000 in
set_option maxHeartbeats 4000000 in
theorem IsDet_any (lo : Nat) (t : Lts) (lv ev : Value) (w : World) (hsh : Short20 t.labels) (hl : SliceK 1 encS lo w lv t.labels) (he : SliceK 3 encE lo w ev t.edges) (g : Glob w) :
    Calls Tryz.prog 43 #[.agg #[.int .i64 t.states, .int .i64 t.initial, lv, ev]] w (Decides (Valid t ∧ Single t) w) := by
  have HB0 : Hid (Below w.heap.size w (w.alloc (.cells #[.int .i64 t.states, .int .i64 t.initial, lv, ev] 34))) := box_below _ _ _
  by_cases hv : Valid t
  · have HV := Lib.hid (Valid_yes hv hsh (hl.below HB0.out) (he.below HB0.out) (g.below HB0.out))
    have HVV := Lib.hid hv
    clear hv hsh hl g
    obtain ⟨ae, ce, rfl, hen, hec, her⟩ := he
    have HER := Lib.hid her
    clear her
    go_enter Tryz.func43, Tryz.ntmps43
    go_wp2_with fail
    refine Calls.mono HV.out ?_
    rintro e w1 ⟨rfl, hb1⟩
    have HB1 := Lib.hid (HB0.out.trans (hb1.mono HB0.out.size))
    have q3 : w1.cell? ⟨w.heap.size, 3, none⟩ = some (.slice ae t.edges.length ce) := keeps hb1 (by simp) (by simp)
    have hbz : w.heap.size < w1.heap.size := by have := hb1.size; simp at this; omega
    have HER1 := Lib.hid (HER.out.below HB1.out)
    have Q3 := Lib.hid q3
    clear hb1 HB0 HV HER
    obtain ⟨b0, hb0⟩ : ∃ b0, b0 = w.heap.size := ⟨_, rfl⟩
    rw [← hb0] at hbz Q3 q3
    simp only [← hb0]
    have HB00 := Lib.hid hb0
    clear hb0
    go_wp2_with fail
    clear q3
    go_loopw [11] (fun i wr => ∃ k : Nat, k ≤ t.edges.length ∧ i = .int .i64 k ∧ Below w1.heap.size w1 wr ∧ (∀ q (h : q < t.edges.length), q < k → t.edges[q].lab ≠ 0) ∧ (∀ q (h : q + 1 < t.edges.length), q + 1 < k → ¬ (t.edges[q + 1].src = t.edges[q].src ∧ t.edges[q + 1].lab = t.edges[q].lab))) (fun i _ => t.edges.length - (intOf i).toNat)
    case atStart => exact ⟨0, Nat.zero_le _, rfl, Below.refl _ _, fun _ _ h => by omega, fun _ _ h => by omega⟩
    case round =>
      obtain ⟨k, hk, rfl, hbl, hx1, hx2⟩ := hrel
      have HX1 := Lib.hid hx1
      have HX2 := Lib.hid hx2
      have HBE := Lib.hid hbl
      have hsz := hbl.size
      have q3 := keeps hbl hbz Q3.out
      clear hx1 hx2 hbl
      by_cases hlt : k < t.edges.length
      · obtain ⟨be, oe, rfl, -, hbe, e1, e2, e3⟩ := (HER1.out.below HBE.out).edge hlt
        have HROW := Lib.hid (HER1.out.below HBE.out)
        obtain ⟨e, hee⟩ : ∃ e, e = t.edges[k] := ⟨_, rfl⟩
        rw [← hee] at e1 e2 e3
        have HEE := Lib.hid hee
        clear hee
        have HO : Below wr.heap.size wr (wr.alloc (.cells #[.int .i64 e.src, .int .i64 e.lab, .int .i64 e.dst] 73)) := box_below _ _ _
        have s3 := later_cell (w0 := wr.alloc (.cells #[.int .i64 e.src, .int .i64 e.lab, .int .i64 e.dst] 73)) (b := b0) (by simp; omega) (keeps HO (by omega) q3)
        have t0 := later_cell (w0 := wr.alloc (.cells #[.int .i64 e.src, .int .i64 e.lab, .int .i64 e.dst] 73)) (b := wr.heap.size) (o := 0) (v := .int .i64 e.src) (by simp) (by simp)
        have t1 := later_cell (w0 := wr.alloc (.cells #[.int .i64 e.src, .int .i64 e.lab, .int .i64 e.dst] 73)) (b := wr.heap.size) (o := 1) (v := .int .i64 e.lab) (by simp) (by simp)
        have HO2 := Lib.hid HO
        have HLT : Hid (Below w1.heap.size w1 (wr.alloc (.cells #[.int .i64 e.src, .int .i64 e.lab, .int .i64 e.dst] 73))) := HBE.out.trans (HO.mono hsz)
        cases g1 : (e.lab == 0)
        · have HG1 : Hid (t.edges[k].lab ≠ 0) := by unfold Hid; rw [← HEE.out]; simpa using g1
          rcases Nat.eq_zero_or_pos k with hk0 | hk0
          · have hk1 : decide ((0 : Int) < (k : Int)) = false := by rw [decide_eq_false_iff_not]; omega
            have hk2 : decide (0 < k) = false := by rw [decide_eq_false_iff_not]; omega
            have hk3 : ¬ (0 : Int) < (k : Int) := by omega
            have hk4 : ¬ 0 < k := by omega
            have HK0 : Hid (k = 0) := hk0
            clear hk0 HO
            go_wp2_with fail
            refine wp_region_later (by kernel_rfl) (by kernel_rfl) ?_
            repeat (go_big_quiet_step ((fail)))
            refine wpQuiet_nil ?_
            intro _ hw9
            obtain ⟨nl, hw8⟩ := hw9
            subst hw8
            clear g1 t0 t1 s3
            go_wp2_with fail
            go_roundw
            case rel => exact ⟨k + 1, by omega, by go_num, HLT.out.trans (nl.h.mono HLT.out.size), fun q h h' => by
                obtain rfl : q = k := by have := HK0.out; omega
                exact HG1.out, fun q h h' => by
                have := HK0.out; omega⟩
            case measure => simp [intOf]; omega
          · obtain ⟨m, rfl⟩ : ∃ m, k = m + 1 := ⟨k - 1, by omega⟩
            obtain ⟨_, _, e9, -, -, d1, d2, -⟩ := HROW.out.edge (show m < t.edges.length by omega)
            simp only [Option.some.injEq, Addr.mk.injEq, and_true] at e9
            obtain ⟨rfl, rfl⟩ := e9
            replace d1 := later_cell (w0 := wr.alloc (.cells #[.int .i64 e.src, .int .i64 e.lab, .int .i64 e.dst] 73)) (b := be) (by simp; omega) (keeps HO hbe d1)
            replace d2 := later_cell (w0 := wr.alloc (.cells #[.int .i64 e.src, .int .i64 e.lab, .int .i64 e.dst] 73)) (b := be) (by simp; omega) (keeps HO hbe d2)
            have hk1 : decide ((0 : Int) < (m : Int) + 1) = true := by rw [decide_eq_true_eq]; omega
            have hk2 : (0 : Int) < (m : Int) + 1 := by omega
            clear hk0 HO
            cases g2 : (t.edges[m].src == e.src)
            · have HG2 : Hid (¬ t.edges[m + 1].src = t.edges[m].src) := by unfold Hid; rw [← HEE.out]; rw [beq_eq_false_iff_ne] at g2; exact fun h => g2 h.symm
              go_wp2_with fail
              refine wp_region_later (by kernel_rfl) (by kernel_rfl) ?_
              repeat (go_big_quiet_step ((fail)))
              refine wpQuiet_nil ?_
              intro _ hw9
              obtain ⟨nl, hw8⟩ := hw9
              subst hw8
              clear g1 t0 t1 s3
              go_wp2_with fail
              go_roundw
              case rel => exact ⟨m + 1 + 1, by omega, by go_num, HLT.out.trans (nl.h.mono HLT.out.size), fun q h h' => by
                  by_cases e9 : q = m + 1
                  · subst e9; exact HG1.out
                  · exact HX1.out q h (by omega), fun q h h' => by
                  by_cases e9 : q = m
                  · subst e9; exact fun h => HG2.out h.1
                  · exact HX2.out q h (by omega)⟩
              case measure => simp [intOf]; omega
            · have HG2 : Hid (t.edges[m + 1].src = t.edges[m].src) := by unfold Hid; rw [← HEE.out]; rw [beq_iff_eq] at g2; exact g2.symm
              cases g3 : (t.edges[m].lab == e.lab)
              · have HG3 : Hid (¬ t.edges[m + 1].lab = t.edges[m].lab) := by unfold Hid; rw [← HEE.out]; rw [beq_eq_false_iff_ne] at g3; exact fun h => g3 h.symm
                go_wp2_with fail
                refine wp_region_later (by kernel_rfl) (by kernel_rfl) ?_
                repeat (go_big_quiet_step ((fail)))
                refine wpQuiet_nil ?_
                intro _ hw9
                obtain ⟨nl, hw8⟩ := hw9
                subst hw8
                clear g1 t0 t1 s3
                go_wp2_with fail
                go_roundw
                case rel => exact ⟨m + 1 + 1, by omega, by go_num, HLT.out.trans (nl.h.mono HLT.out.size), fun q h h' => by
                    by_cases e9 : q = m + 1
                    · subst e9; exact HG1.out
                    · exact HX1.out q h (by omega), fun q h h' => by
                    by_cases e9 : q = m
                    · subst e9; exact fun h => HG3.out h.2
                    · exact HX2.out q h (by omega)⟩
                case measure => simp [intOf]; omega
              · have HG3 : Hid (t.edges[m + 1].lab = t.edges[m].lab) := by unfold Hid; rw [← HEE.out]; rw [beq_iff_eq] at g3; exact g3.symm
                go_wp2_with fail
                refine wp_region_later (by kernel_rfl) (by kernel_rfl) ?_
                repeat (go_big_quiet_step ((fail)))
                refine wpQuiet_nil ?_
                intro _ hw9
                obtain ⟨nl, hw8⟩ := hw9
                subst hw8
                go_wp2_with fail
                go_ret
                refine ⟨false, rfl, ⟨(fun h => by cases h), fun h => ?_⟩, HB1.out.trans ((HLT.out.trans (nl.h.mono HLT.out.size)).mono HB1.out.size)⟩
                exact absurd ⟨HG2.out, HG3.out⟩ (h.2.one m hlt)
        · have HG1 : Hid (t.edges[k].lab = 0) := by unfold Hid; rw [← HEE.out]; simpa using g1
          clear HO
          go_wp2_with fail
          refine wp_region_later (by kernel_rfl) (by kernel_rfl) ?_
          repeat (go_big_quiet_step ((fail)))
          refine wpQuiet_nil ?_
          intro _ hw9
          obtain ⟨nl, hw8⟩ := hw9
          subst hw8
          go_wp2_with fail
          go_ret
          refine ⟨false, rfl, ⟨(fun h => by cases h), fun h => ?_⟩, HB1.out.trans ((HLT.out.trans (nl.h.mono HLT.out.size)).mono HB1.out.size)⟩
          exact absurd HG1.out (h.2.visible k hlt)
      · go_wp2_with fail
        go_ret
        exact ⟨true, rfl, ⟨fun _ => ⟨HVV.out, fun q h => HX1.out q h (by omega), fun q h => HX2.out q h (by omega)⟩, fun _ => rfl⟩, HB1.out.trans (HBE.out.mono HB1.out.size)⟩
  · have HV := Lib.hid (Valid_no hv hsh (hl.below HB0.out) (he.below HB0.out) (g.below HB0.out))
    have HVV := Lib.hid hv
    clear hv hsh hl he g
    go_enter Tryz.func43, Tryz.ntmps43
    go_wp2_with fail
    refine Calls.mono HV.out ?_
    rintro e w1 ⟨rfl, hb1⟩
    have HB1 := Lib.hid (HB0.out.trans (hb1.mono HB0.out.size))
    clear hb1
    go_wp2_with fail
    go_ret
    exact ⟨false, rfl, ⟨(fun h => by cases h), fun h => absurd h.1 HVV.out⟩, HB1.out⟩

theorem two_new' (w : World) (a b : Array Value) (T : TypeId) : Below w.heap.size w ((w.alloc (.cells a T)).alloc (.cells b T)) := (box_below _ _ _).alloc (by simp) _

end Go.Proofs.YtkffdamgekoifaaGreatDoor
