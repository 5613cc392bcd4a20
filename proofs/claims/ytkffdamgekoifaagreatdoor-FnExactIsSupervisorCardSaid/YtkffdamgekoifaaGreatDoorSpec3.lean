/-
  What the reference's functions on systems compute: whether they are valid and deterministic.
-/
import Derived.Test.YtkffdamgekoifaaGreatDoorSpec2
import Derived.Test.YtkffdamgekoifaaGreatDoorSys
import Derived.IntWalk
namespace Go.Proofs.YtkffdamgekoifaaGreatDoor
open Go Go.RowKit

set_option maxHeartbeats 1000000 in
theorem l11Less_any (ba oa bb ob : Nat) (a b : Edge) (w : World) (ha : EdgeCells w ba oa a) (hb : EdgeCells w bb ob b) :
    Calls Tryz.prog 54 #[.pointer (some ⟨ba, oa, none⟩), .pointer (some ⟨bb, ob, none⟩)] w fun e w' => e = .returned (.bool (edgeLess a b)) ∧ Below w.heap.size w w' := by
  obtain ⟨a1, a2, a3⟩ := ha
  obtain ⟨b1, b2, b3⟩ := hb
  by_cases h1 : (a.src != b.src) = true
  · have HF : Hid (edgeLess a b = decide (a.src < b.src)) := by unfold Hid edgeLess; rw [if_pos (by simpa using h1)]
    go_enter Tryz.func54, Tryz.ntmps54
    go_wp2
    go_quiet (fail)
    go_wp2
    go_quiet (fail)
    go_wp2
    go_ret
    exact ⟨ret_bool HF.out.symm, drews (drews (Below.refl _ _) _) _⟩
  · have h1' : (a.src != b.src) = false := by simpa using h1
    clear h1
    by_cases h2 : (a.lab != b.lab) = true
    · have HF : Hid (edgeLess a b = decide (a.lab < b.lab)) := by unfold Hid edgeLess; rw [if_neg (by simpa using h1'), if_pos (by simpa using h2)]
      go_enter Tryz.func54, Tryz.ntmps54
      go_wp2
      go_quiet (fail)
      go_wp2
      go_quiet (fail)
      go_wp2
      go_quiet (fail)
      go_wp2
      go_ret
      exact ⟨ret_bool HF.out.symm, drews (drews (drews (Below.refl _ _) _) _) _⟩
    · have h2' : (a.lab != b.lab) = false := by simpa using h2
      have HF : Hid (edgeLess a b = decide (a.dst < b.dst)) := by unfold Hid edgeLess; rw [if_neg (by simpa using h1'), if_neg (by simpa using h2')]
      clear h2
      go_enter Tryz.func54, Tryz.ntmps54
      go_wp2
      go_quiet (fail)
      go_wp2
      go_quiet (fail)
      go_wp2
      go_quiet (fail)
      go_wp2
      go_ret
      exact ⟨ret_bool HF.out.symm, drews (drews (drews (Below.refl _ _) _) _) _⟩

set_option maxRecDepth 100000 in
set_option maxHeartbeats 1000000 in
theorem l11Names_any (v : Value) (lo : Nat) (ls : List ByteArray) (w : World) (hsh : Short ls) (hv : SliceK 1 encS lo w v ls) : Calls Tryz.prog 53 #[v] w (Decides (LabelsOk ls) w) := by
  have HSH := Lib.hid hsh
  obtain ⟨a, cap, rfl, hn, hcap, hr⟩ := hv
  clear hsh
  by_cases h0 : ls.length = 0
  · have h0' : ((ls.length : Int) == 0) = true := by simp [h0]
    clear h0
    go_enter Tryz.func53, Tryz.ntmps53
    go_wp2_with fail
    go_ret
    refine ⟨false, rfl, ?_, Below.refl _ _⟩
    refine ⟨(fun h => by cases h), fun h => ?_⟩
    have := h.pos
    rw [beq_iff_eq] at h0'
    omega
  · have h0' : ((ls.length : Int) == 0) = false := by rw [beq_eq_false_iff_ne]; omega
    have hpos : 0 < ls.length := by omega
    clear h0
    by_cases h1 : 12 < ls.length
    · have h1' : decide (12 < (ls.length : Int)) = true := by simp; omega
      go_enter Tryz.func53, Tryz.ntmps53
      go_wp2_with fail
      go_ret
      refine ⟨false, rfl, ⟨(fun h => by cases h), fun h => ?_⟩, Below.refl _ _⟩
      have := h.most
      omega
    · have h1' : decide (12 < (ls.length : Int)) = false := by simp; omega
      obtain ⟨b, off, rfl, -, hb, c0⟩ := hr.one hpos
      simp only [encS, List.getElem?_cons_zero, Nat.add_zero] at c0
      by_cases h2 : (ls[0].toList == [116, 97, 117]) = true
      · have h2' : (!(ls[0].toList == [116, 97, 117])) = false := by rw [h2]; rfl
        have HT : Hid (ls[0].toList = tauB) := eq_of_beq h2
        go_enter Tryz.func53, Tryz.ntmps53
        go_wp2_with fail
        clear h2 h2' c0 h0' h1'
        go_loopw [3] (fun i wr => ∃ m : Nat, m + 1 ≤ ls.length ∧ i = .int .i64 ((m : Int) + 1) ∧ Below w.heap.size w wr ∧ (∀ q (h : q < ls.length), 1 ≤ q → q ≤ m → labelOk ls[q].data.toList = true ∧ ls[q].toList ≠ tauB) ∧ (∀ q (h : q + 1 < ls.length), 1 ≤ q → q + 1 ≤ m → strLess ls[q] ls[q + 1] = true)) (fun i _ => ls.length - (intOf i).toNat)
        case atStart => exact ⟨0, by omega, rfl, Below.refl _ _, fun _ _ _ _ => by omega, fun _ _ _ _ => by omega⟩
        case round =>
          obtain ⟨m, hm, rfl, hbl, hl1, hl2⟩ := hrel
          have HBL := Lib.hid hbl
          have HL1 := Lib.hid hl1
          have HL2 := Lib.hid hl2
          have hsz := hbl.size
          clear hl1 hl2
          by_cases hlt : m + 1 < ls.length
          · have hle : (m : Int) + 1 < ls.length := by omega
            have hshk := HSH.out (m + 1) hlt
            obtain ⟨_, _, e1, -, hb1, c1⟩ := (hr.below hbl).one hlt
            simp only [Option.some.injEq, Addr.mk.injEq, and_true] at e1
            obtain ⟨rfl, rfl⟩ := e1
            obtain ⟨_, _, e1, -, -, c2⟩ := (hr.below hbl).one (show m < ls.length by omega)
            simp only [Option.some.injEq, Addr.mk.injEq, and_true] at e1
            obtain ⟨rfl, rfl⟩ := e1
            simp only [encS, List.getElem?_cons_zero] at c1 c2
            replace c1 := later_cell hb1 c1
            replace c2 := later_cell hb1 c2
            clear hbl hr
            have hcl := fun W => l01Label_any ls[m + 1] W hshk
            cases hA : labelOk ls[m + 1].data.toList
            · rw [hA] at hcl
              have HA := Lib.hid hA
              have HCL := Lib.hid hcl
              clear hcl hA
              go_wp2
              refine wp_region_later (by kernel_rfl) (by kernel_rfl) ?_
              repeat (go_big_quiet_step ((go_at_call 67; exact later_call (HCL.out _))))
              refine wpQuiet_nil ?_
              intro _ hw9
              obtain ⟨nl, hw8⟩ := hw9
              subst hw8
              go_wp2
              go_ret
              refine ⟨false, rfl, ⟨(fun h => by cases h), fun h => ?_⟩, HBL.out.trans (nl.h.mono hsz)⟩
              have := h.label (m + 1) hlt (by omega)
              rw [HA.out] at this
              cases this
            · rw [hA] at hcl
              have HA := Lib.hid hA
              have HCL := Lib.hid hcl
              clear hcl hA
              cases hB : (ls[m + 1].toList == [116, 97, 117])
              · have HB : Hid (ls[m + 1].toList ≠ tauB) := fun e => by rw [e] at hB; simp [tauB] at hB
                by_cases hm1 : 1 ≤ m
                · have g1 : decide (1 < (m : Int) + 1) = true := by simp; omega
                  have g2 : (0 : Int) < m := by omega
                  have g3 : 0 < m := by omega
                  clear hm1
                  cases hD : Op.bytesLess ls[m].toList ls[m + 1].toList
                  · go_wp2
                    refine wp_region_later (by kernel_rfl) (by kernel_rfl) ?_
                    repeat (go_big_quiet_step ((go_at_call 67; exact later_call (HCL.out _))))
                    refine wpQuiet_nil ?_
                    intro _ hw9
                    obtain ⟨nl, hw8⟩ := hw9
                    subst hw8
                    go_wp2
                    go_ret
                    refine ⟨false, rfl, ⟨(fun h => by cases h), fun h => ?_⟩, HBL.out.trans (nl.h.mono hsz)⟩
                    have := h.rise m hlt (by omega)
                    unfold strLess at this
                    rw [hD] at this
                    cases this
                  · go_wp2
                    refine wp_region_later (by kernel_rfl) (by kernel_rfl) ?_
                    repeat (go_big_quiet_step ((go_at_call 67; exact later_call (HCL.out _))))
                    refine wpQuiet_nil ?_
                    intro _ hw9
                    obtain ⟨nl, hw8⟩ := hw9
                    subst hw8
                    go_wp2
                    go_roundw
                    case rel => exact ⟨m + 1, by omega, by go_num, HBL.out.trans (nl.h.mono hsz), fun q h h1 h2 => by
                        by_cases e : q = m + 1
                        · subst e; exact ⟨HA.out, HB.out⟩
                        · exact HL1.out q h h1 (by omega), fun q h h1 h2 => by
                        by_cases e : q = m
                        · subst e; exact hD
                        · exact HL2.out q h h1 (by omega)⟩
                    case measure => simp [intOf]; omega
                · have g1 : decide (1 < (m : Int) + 1) = false := by simp; omega
                  have hm0 : m ≤ 0 := by omega
                  clear hm1
                  go_wp2
                  refine wp_region_later (by kernel_rfl) (by kernel_rfl) ?_
                  repeat (go_big_quiet_step ((go_at_call 67; exact later_call (HCL.out _))))
                  refine wpQuiet_nil ?_
                  intro _ hw9
                  obtain ⟨nl, hw8⟩ := hw9
                  subst hw8
                  go_wp2
                  go_roundw
                  case rel => exact ⟨m + 1, by omega, by go_num, HBL.out.trans (nl.h.mono hsz), fun q h h1 h2 => by
                      obtain rfl : q = m + 1 := by omega
                      exact ⟨HA.out, HB.out⟩, fun q h h1 h2 => by omega⟩
                  case measure => simp [intOf]; omega
              · have HB : Hid (ls[m + 1].toList = tauB) := eq_of_beq hB
                go_wp2
                refine wp_region_later (by kernel_rfl) (by kernel_rfl) ?_
                repeat (go_big_quiet_step ((go_at_call 67; exact later_call (HCL.out _))))
                refine wpQuiet_nil ?_
                intro _ hw9
                obtain ⟨nl, hw8⟩ := hw9
                subst hw8
                go_wp2
                go_ret
                refine ⟨false, rfl, ⟨(fun h => by cases h), fun h => ?_⟩, HBL.out.trans (nl.h.mono hsz)⟩
                exact absurd HB.out (h.other (m + 1) hlt (by omega))
          · clear hr
            go_wp2
            go_ret
            refine ⟨true, rfl, ⟨fun _ => ?_, fun _ => rfl⟩, HBL.out⟩
            exact ⟨hpos, by omega, fun _ => HT.out, fun i h h1 => (HL1.out i h h1 (by omega)).1, fun i h h1 => (HL1.out i h h1 (by omega)).2, fun i h h1 => HL2.out i h h1 (by omega)⟩
      · have h2' : (!(ls[0].toList == [116, 97, 117])) = true := by simpa using h2
        have h2'' : (ls[0].toList == [116, 97, 117]) = false := by simpa using h2
        clear h2
        go_enter Tryz.func53, Tryz.ntmps53
        go_wp2_with fail
        go_ret
        refine ⟨false, rfl, ⟨(fun h => by cases h), fun h => ?_⟩, Below.refl _ _⟩
        have := h.first hpos
        rw [this] at h2''
        simp [tauB] at h2''

end Go.Proofs.YtkffdamgekoifaaGreatDoor
