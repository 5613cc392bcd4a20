/-
  What the reference's functions on systems compute: whether they are valid and deterministic.
-/
import Derived.Test.YtkffdamgekoifaaGreatDoorSpec3
namespace Go.Proofs.YtkffdamgekoifaaGreatDoor
open Go Go.RowKit

theorem inB_true {n a b : Int} (h1 : a ≤ n) (h2 : n ≤ b) : inB n a b = true := by unfold inB; rw [decide_eq_true h1, decide_eq_true h2]; rfl
theorem inB_iff {n a b : Int} : inB n a b = true ↔ a ≤ n ∧ n ≤ b := by unfold inB; simp
theorem inB_not {n a b : Int} (h : inB n a b = false) : ¬ (a ≤ n ∧ n ≤ b) := fun h' => by rw [inB_iff.2 h'] at h; cases h

theorem edgeOk_iff (t : Lts) (e : Edge) : EdgeOk t e ↔ (inB e.src 0 (t.states - 1) = true ∧ inB e.dst 0 (t.states - 1) = true) ∧ inB e.lab 0 ((t.labels.length : Int) - 1) = true := by
  rw [inB_iff, inB_iff, inB_iff]
  exact ⟨fun ⟨a, b, c, d, e, f⟩ => by omega, fun h => ⟨by omega, by omega, by omega, by omega, by omega, by omega⟩⟩

set_option maxRecDepth 100000 in
set_option maxHeartbeats 4000000 in
theorem l11Is_any (p lo : Nat) (t : Lts) (w : World) (hsh : Short t.labels) (hp : LtsPtr lo w p t) : Calls Tryz.prog 30 #[.pointer (some ⟨p, 0, none⟩)] w (Decides (Valid t) w) := by
  obtain ⟨lv, ev, hpl, q0, q1, q2, q3, hl, he⟩ := hp
  have HL := Lib.hid hl
  obtain ⟨al, cl, rfl, hln, hlc, -⟩ := hl
  obtain ⟨ae, ce, rfl, hen, hec, hrow⟩ := he
  have HSH := Lib.hid hsh
  have r0 := later_cell hpl q0
  have r1 := later_cell hpl q1
  have r2 := later_cell hpl q2
  have r3 := later_cell hpl q3
  clear hsh
  cases hA : inB t.states 1 40
  · clear q0 q1 q2 q3 hrow
    go_enter Tryz.func30, Tryz.ntmps30
    go_wp2
    refine wp_region_later (by kernel_rfl) (by kernel_rfl) ?_
    repeat (go_big_quiet_step ((go_at_call 51; exact later_same (l00In_any _ _ _ _))))
    refine wpQuiet_nil ?_
    intro _ hw9
    obtain ⟨nl, hw8⟩ := hw9
    subst hw8
    go_wp2
    go_ret
    exact ⟨false, rfl, ⟨(fun h => by cases h), fun h => absurd ⟨h.st0, h.st1⟩ (inB_not hA)⟩, nl.h⟩
  · have hA1 : 1 ≤ t.states := (inB_iff.1 hA).1
    have hA2 : t.states ≤ 40 := (inB_iff.1 hA).2
    cases hB : inB t.initial 0 (t.states - 1)
    · clear q0 q1 q2 q3 hrow
      go_enter Tryz.func30, Tryz.ntmps30
      go_wp2
      refine wp_region_later (by kernel_rfl) (by kernel_rfl) ?_
      repeat (go_big_quiet_step ((go_at_call 51; exact later_same (l00In_any _ _ _ _))))
      refine wpQuiet_nil ?_
      intro _ hw9
      obtain ⟨nl, hw8⟩ := hw9
      subst hw8
      go_wp2
      go_ret
      exact ⟨false, rfl, ⟨(fun h => by cases h), fun h => absurd ⟨h.in0, by have := h.in1; omega⟩ (inB_not hB)⟩, nl.h⟩
    · have HB1 : Hid (0 ≤ t.initial ∧ t.initial < t.states) := by unfold Hid; have := inB_iff.1 hB; omega
      by_cases hC : LabelsOk t.labels
      · have HC := Lib.hid hC
        clear hC
        by_cases hD : 300 < t.edges.length
        · have hD' : decide (300 < (t.edges.length : Int)) = true := by simp; omega
          clear q0 q1 q2 q3 hrow
          go_enter Tryz.func30, Tryz.ntmps30
          go_wp2
          refine wp_region_later (by kernel_rfl) (by kernel_rfl) ?_
          repeat (go_big_quiet_step ((first | (go_at_call 51; exact later_same (l00In_any _ _ _ _)) | (go_at_call 53; exact later_call (Decides.yes (l11Names_any _ lo _ _ HSH.out (SliceK.below HL.out (Later.h _))) HC.out)))))
          refine wpQuiet_nil ?_
          intro _ hw9
          obtain ⟨nl, hw8⟩ := hw9
          subst hw8
          go_wp2
          go_ret
          exact ⟨false, rfl, ⟨(fun h => by cases h), fun h => by have := h.most; omega⟩, nl.h⟩
        · have hD' : decide (300 < (t.edges.length : Int)) = false := by simp; omega
          have HQ0 := Lib.hid q0
          have HQ1 := Lib.hid q1
          have HQ2 := Lib.hid q2
          have HQ3 := Lib.hid q3
          clear q0 q1 q2 q3
          go_enter Tryz.func30, Tryz.ntmps30
          go_wp2
          refine wp_region_later (by kernel_rfl) (by kernel_rfl) ?_
          repeat (go_big_quiet_step ((first | (go_at_call 51; exact later_same (l00In_any _ _ _ _)) | (go_at_call 53; exact later_call (Decides.yes (l11Names_any _ lo _ _ HSH.out (SliceK.below HL.out (Later.h _))) HC.out)))))
          refine wpQuiet_nil ?_
          intro _ hw9
          obtain ⟨nl, hw8⟩ := hw9
          subst hw8
          have HN0 := Lib.hid nl.h
          clear r0 r1 r2 r3 hA hB hD'
          go_wp2
          go_loopw [3] (fun i wr => ∃ k : Nat, k ≤ t.edges.length ∧ i = .int .i64 k ∧ Below w.heap.size w wr ∧ (∀ q (h : q < t.edges.length), q < k → EdgeOk t t.edges[q]) ∧ (∀ q (h : q + 1 < t.edges.length), q + 1 < k → edgeLess t.edges[q] t.edges[q + 1] = true)) (fun i _ => t.edges.length - (intOf i).toNat)
          case atStart => exact ⟨0, Nat.zero_le _, rfl, HN0.out, fun _ _ h => by omega, fun _ _ h => by omega⟩
          case round =>
            obtain ⟨k, hk, rfl, hbl, hx1, hx2⟩ := hrel
            have HX1 := Lib.hid hx1
            have HX2 := Lib.hid hx2
            have HBL := Lib.hid hbl
            have hsz := hbl.size
            have q0 := keeps hbl hpl HQ0.out
            have q2 := keeps hbl hpl HQ2.out
            have q3 := keeps hbl hpl HQ3.out
            clear hx1 hx2 hbl
            by_cases hlt : k < t.edges.length
            · rcases Nat.eq_zero_or_pos k with hk0 | hk0
              · have hkz : k ≤ 0 := by omega
                clear hk0
                obtain ⟨be, oe, rfl, -, hbe, e1, e2, e3⟩ := (hrow.below HBL.out).edge hlt
                have HE := Lib.hid (show EdgeOk t t.edges[k] ↔ (inB t.edges[k].src 0 (t.states - 1) = true ∧ inB t.edges[k].dst 0 (t.states - 1) = true) ∧ inB t.edges[k].lab 0 ((t.labels.length : Int) - 1) = true from edgeOk_iff t _)
                have hee : ∃ e, e = t.edges[k] := ⟨_, rfl⟩
                obtain ⟨e, hee⟩ := hee
                rw [← hee] at e1 e2 e3 HE
                have HEE := Lib.hid hee
                clear hee
                have HO : Below wr.heap.size wr (wr.alloc (.cells #[.int .i64 e.src, .int .i64 e.lab, .int .i64 e.dst] 73)) := (Below.refl _ _).alloc (Nat.le_refl _) _
                have s0 := later_cell (w0 := wr.alloc (.cells #[.int .i64 e.src, .int .i64 e.lab, .int .i64 e.dst] 73)) (b := p) (by simp; omega) (keeps HO (by omega) q0)
                have s2 := later_cell (w0 := wr.alloc (.cells #[.int .i64 e.src, .int .i64 e.lab, .int .i64 e.dst] 73)) (b := p) (by simp; omega) (keeps HO (by omega) q2)
                have s3 := later_cell (w0 := wr.alloc (.cells #[.int .i64 e.src, .int .i64 e.lab, .int .i64 e.dst] 73)) (b := p) (by simp; omega) (keeps HO (by omega) q3)
                have t0 := later_cell (w0 := wr.alloc (.cells #[.int .i64 e.src, .int .i64 e.lab, .int .i64 e.dst] 73)) (b := wr.heap.size) (o := 0) (v := .int .i64 e.src) (by simp) (by simp)
                have t1 := later_cell (w0 := wr.alloc (.cells #[.int .i64 e.src, .int .i64 e.lab, .int .i64 e.dst] 73)) (b := wr.heap.size) (o := 1) (v := .int .i64 e.lab) (by simp) (by simp)
                have t2 := later_cell (w0 := wr.alloc (.cells #[.int .i64 e.src, .int .i64 e.lab, .int .i64 e.dst] 73)) (b := wr.heap.size) (o := 2) (v := .int .i64 e.dst) (by simp) (by simp)
                have HO2 := Lib.hid HO
                clear HO
                cases g1 : inB e.src 0 (t.states - 1)
                · go_wp2
                  refine wp_region_later (by kernel_rfl) (by kernel_rfl) ?_
                  repeat (go_big_quiet_step ((go_at_call 51; exact later_same (l00In_any _ _ _ _))))
                  refine wpQuiet_nil ?_
                  intro _ hw9
                  obtain ⟨nl, hw8⟩ := hw9
                  subst hw8
                  go_wp2
                  go_ret
                  refine ⟨false, rfl, ⟨(fun h => by cases h), fun h => ?_⟩, HBL.out.trans ((HO2.out.trans (nl.h.mono (by simp))).mono hsz)⟩
                  have := h.edge k hlt
                  rw [← HEE.out, HE.out] at this
                  rw [g1] at this
                  exact absurd this.1.1 (by simp)
                · cases g2 : inB e.dst 0 (t.states - 1)
                  · go_wp2
                    refine wp_region_later (by kernel_rfl) (by kernel_rfl) ?_
                    repeat (go_big_quiet_step ((go_at_call 51; exact later_same (l00In_any _ _ _ _))))
                    refine wpQuiet_nil ?_
                    intro _ hw9
                    obtain ⟨nl, hw8⟩ := hw9
                    subst hw8
                    go_wp2
                    go_ret
                    refine ⟨false, rfl, ⟨(fun h => by cases h), fun h => ?_⟩, HBL.out.trans ((HO2.out.trans (nl.h.mono (by simp))).mono hsz)⟩
                    have := h.edge k hlt
                    rw [← HEE.out, HE.out] at this
                    rw [g2] at this
                    exact absurd this.1.2 (by simp)
                  · cases g3 : inB e.lab 0 ((t.labels.length : Int) - 1)
                    · go_wp2
                      refine wp_region_later (by kernel_rfl) (by kernel_rfl) ?_
                      repeat (go_big_quiet_step ((go_at_call 51; exact later_same (l00In_any _ _ _ _))))
                      refine wpQuiet_nil ?_
                      intro _ hw9
                      obtain ⟨nl, hw8⟩ := hw9
                      subst hw8
                      go_wp2
                      go_ret
                      refine ⟨false, rfl, ⟨(fun h => by cases h), fun h => ?_⟩, HBL.out.trans ((HO2.out.trans (nl.h.mono (by simp))).mono hsz)⟩
                      have := h.edge k hlt
                      rw [← HEE.out, HE.out] at this
                      rw [g3] at this
                      exact absurd this.2 (by simp)
                    · have HEK : Hid (EdgeOk t t.edges[k]) := by unfold Hid; rw [← HEE.out, HE.out]; exact ⟨⟨g1, g2⟩, g3⟩
                      have hk0 : ¬ (0 : Int) < (k : Int) := by omega
                      go_wp2
                      refine wp_region_later (by kernel_rfl) (by kernel_rfl) ?_
                      repeat (go_big_quiet_step ((go_at_call 51; exact later_same (l00In_any _ _ _ _))))
                      refine wpQuiet_nil ?_
                      intro _ hw9
                      obtain ⟨nl, hw8⟩ := hw9
                      subst hw8
                      clear g1 g2 g3 s0 s2 t0 t1 t2
                      have s3 := s3 nl
                      go_wp2
                      go_roundw
                      case rel => exact ⟨k + 1, by omega, by go_num, HBL.out.trans ((HO2.out.trans (nl.h.mono (by simp))).mono hsz), fun q h h' => by
                          obtain rfl : q = k := by omega
                          exact HEK.out, fun q h h' => by omega⟩
                      case measure => simp [intOf]; omega
              · obtain ⟨m, rfl⟩ : ∃ m, k = m + 1 := ⟨k - 1, by omega⟩
                clear hk0
                obtain ⟨be, oe, rfl, -, hbe, e1, e2, e3⟩ := (hrow.below HBL.out).edge hlt
                have HROW := Lib.hid (hrow.below HBL.out)
                have HE := Lib.hid (show EdgeOk t t.edges[m + 1] ↔ (inB t.edges[m + 1].src 0 (t.states - 1) = true ∧ inB t.edges[m + 1].dst 0 (t.states - 1) = true) ∧ inB t.edges[m + 1].lab 0 ((t.labels.length : Int) - 1) = true from edgeOk_iff t _)
                have hee : ∃ e, e = t.edges[m + 1] := ⟨_, rfl⟩
                obtain ⟨e, hee⟩ := hee
                rw [← hee] at e1 e2 e3 HE
                have HEE := Lib.hid hee
                clear hee
                have HO : Below wr.heap.size wr (wr.alloc (.cells #[.int .i64 e.src, .int .i64 e.lab, .int .i64 e.dst] 73)) := (Below.refl _ _).alloc (Nat.le_refl _) _
                have s0 := later_cell (w0 := wr.alloc (.cells #[.int .i64 e.src, .int .i64 e.lab, .int .i64 e.dst] 73)) (b := p) (by simp; omega) (keeps HO (by omega) q0)
                have s2 := later_cell (w0 := wr.alloc (.cells #[.int .i64 e.src, .int .i64 e.lab, .int .i64 e.dst] 73)) (b := p) (by simp; omega) (keeps HO (by omega) q2)
                have s3 := later_cell (w0 := wr.alloc (.cells #[.int .i64 e.src, .int .i64 e.lab, .int .i64 e.dst] 73)) (b := p) (by simp; omega) (keeps HO (by omega) q3)
                have t0 := later_cell (w0 := wr.alloc (.cells #[.int .i64 e.src, .int .i64 e.lab, .int .i64 e.dst] 73)) (b := wr.heap.size) (o := 0) (v := .int .i64 e.src) (by simp) (by simp)
                have t1 := later_cell (w0 := wr.alloc (.cells #[.int .i64 e.src, .int .i64 e.lab, .int .i64 e.dst] 73)) (b := wr.heap.size) (o := 1) (v := .int .i64 e.lab) (by simp) (by simp)
                have t2 := later_cell (w0 := wr.alloc (.cells #[.int .i64 e.src, .int .i64 e.lab, .int .i64 e.dst] 73)) (b := wr.heap.size) (o := 2) (v := .int .i64 e.dst) (by simp) (by simp)
                have HO2 := Lib.hid HO
                clear HO
                cases g1 : inB e.src 0 (t.states - 1)
                · go_wp2
                  refine wp_region_later (by kernel_rfl) (by kernel_rfl) ?_
                  repeat (go_big_quiet_step ((go_at_call 51; exact later_same (l00In_any _ _ _ _))))
                  refine wpQuiet_nil ?_
                  intro _ hw9
                  obtain ⟨nl, hw8⟩ := hw9
                  subst hw8
                  go_wp2
                  go_ret
                  refine ⟨false, rfl, ⟨(fun h => by cases h), fun h => ?_⟩, HBL.out.trans ((HO2.out.trans (nl.h.mono (by simp))).mono hsz)⟩
                  have := h.edge (m + 1) hlt
                  rw [← HEE.out, HE.out] at this
                  rw [g1] at this
                  exact absurd this.1.1 (by simp)
                · cases g2 : inB e.dst 0 (t.states - 1)
                  · go_wp2
                    refine wp_region_later (by kernel_rfl) (by kernel_rfl) ?_
                    repeat (go_big_quiet_step ((go_at_call 51; exact later_same (l00In_any _ _ _ _))))
                    refine wpQuiet_nil ?_
                    intro _ hw9
                    obtain ⟨nl, hw8⟩ := hw9
                    subst hw8
                    go_wp2
                    go_ret
                    refine ⟨false, rfl, ⟨(fun h => by cases h), fun h => ?_⟩, HBL.out.trans ((HO2.out.trans (nl.h.mono (by simp))).mono hsz)⟩
                    have := h.edge (m + 1) hlt
                    rw [← HEE.out, HE.out] at this
                    rw [g2] at this
                    exact absurd this.1.2 (by simp)
                  · cases g3 : inB e.lab 0 ((t.labels.length : Int) - 1)
                    · go_wp2
                      refine wp_region_later (by kernel_rfl) (by kernel_rfl) ?_
                      repeat (go_big_quiet_step ((go_at_call 51; exact later_same (l00In_any _ _ _ _))))
                      refine wpQuiet_nil ?_
                      intro _ hw9
                      obtain ⟨nl, hw8⟩ := hw9
                      subst hw8
                      go_wp2
                      go_ret
                      refine ⟨false, rfl, ⟨(fun h => by cases h), fun h => ?_⟩, HBL.out.trans ((HO2.out.trans (nl.h.mono (by simp))).mono hsz)⟩
                      have := h.edge (m + 1) hlt
                      rw [← HEE.out, HE.out] at this
                      rw [g3] at this
                      exact absurd this.2 (by simp)
                    · have HEK : Hid (EdgeOk t t.edges[m + 1]) := by unfold Hid; rw [← HEE.out, HE.out]; exact ⟨⟨g1, g2⟩, g3⟩
                      go_wp2
                      refine wp_region_later (by kernel_rfl) (by kernel_rfl) ?_
                      repeat (go_big_quiet_step ((go_at_call 51; exact later_same (l00In_any _ _ _ _))))
                      refine wpQuiet_nil ?_
                      intro _ hw9
                      obtain ⟨nl, hw8⟩ := hw9
                      subst hw8
                      have HC1 : Hid (EdgeCells nl.w wr.heap.size 0 e) := ⟨t0 nl, by simpa using t1 nl, by simpa using t2 nl⟩
                      have s3 := s3 nl
                      clear g1 g2 g3 s0 s2 t0 t1 t2
                      have HB4 : Hid (Below wr.heap.size wr nl.w) := HO2.out.trans (nl.h.mono (by simp))
                      obtain ⟨_, _, e9, -, -, d1, d2, d3⟩ := (HROW.out.below HB4.out).edge (show m < t.edges.length by omega)
                      simp only [Option.some.injEq, Addr.mk.injEq, and_true] at e9
                      obtain ⟨rfl, rfl⟩ := e9
                      have HC2 : Hid (EdgeCells nl.w be (oe + m * 3) t.edges[m]) := ⟨d1, d2, d3⟩
                      clear d1 d2 d3
                      cases g4 : edgeLess t.edges[m] e
                      · have HG4 := Lib.hid g4
                        clear g4
                        go_wp2_with fail
                        refine (l11Less_any _ _ _ _ _ _ _ HC2.out HC1.out).mono ?_
                        rintro e' w3 ⟨rfl, hb3⟩
                        rw [HG4.out]
                        go_wp2_with fail
                        go_ret
                        refine ⟨false, rfl, ⟨(fun h => by cases h), fun h => ?_⟩, HBL.out.trans ((HB4.out.mono hsz).trans (hb3.mono (by have := HB4.out.size; omega)))⟩
                        have := h.rise m (by omega)
                        rw [← HEE.out, HG4.out] at this
                        cases this
                      · have HG4 := Lib.hid g4
                        clear g4
                        go_wp2_with fail
                        refine (l11Less_any _ _ _ _ _ _ _ HC2.out HC1.out).mono ?_
                        rintro e' w3 ⟨rfl, hb3⟩
                        rw [HG4.out]
                        have HB5 : Hid (Below w.heap.size w w3) := HBL.out.trans ((HB4.out.mono hsz).trans (hb3.mono (by have := HB4.out.size; omega)))
                        clear hb3
                        go_wp2_with fail
                        go_roundw
                        case rel => exact ⟨m + 1 + 1, by omega, by go_num, HB5.out, fun q h h' => by
                            by_cases e : q = m + 1
                            · subst e; exact HEK.out
                            · exact HX1.out q h (by omega), fun q h h' => by
                            by_cases e : q = m
                            · subst e; rw [← HEE.out]; exact HG4.out
                            · exact HX2.out q h (by omega)⟩
                        case measure => simp [intOf]; omega
            · clear hrow
              go_wp2
              go_ret
              refine ⟨true, rfl, ⟨fun _ => ?_, fun _ => rfl⟩, HBL.out⟩
              exact ⟨hA1, hA2, HB1.out.1, HB1.out.2, HC.out, by omega, fun q h => HX1.out q h (by omega), fun q h => HX2.out q h (by omega)⟩
      · clear q0 q1 q2 q3 hrow
        have HC := Lib.hid hC
        clear hC
        go_enter Tryz.func30, Tryz.ntmps30
        go_wp2
        refine wp_region_later (by kernel_rfl) (by kernel_rfl) ?_
        repeat (go_big_quiet_step ((first | (go_at_call 51; exact later_same (l00In_any _ _ _ _)) | (go_at_call 53; exact later_call (Decides.no (l11Names_any _ lo _ _ HSH.out (SliceK.below HL.out (Later.h _))) HC.out)))))
        refine wpQuiet_nil ?_
        intro _ hw9
        obtain ⟨nl, hw8⟩ := hw9
        subst hw8
        go_wp2
        go_ret
        exact ⟨false, rfl, ⟨(fun h => by cases h), fun h => absurd h.labels HC.out⟩, nl.h⟩

end Go.Proofs.YtkffdamgekoifaaGreatDoor
