/-
  What the reference's functions on systems compute: the edges from a state, the step by a label.
-/
import Derived.Test.YtkffdamgekoifaaGreatDoorSpec4
import Derived.Test.YtkffdamgekoifaaGreatDoorStay
namespace Go.Proofs.YtkffdamgekoifaaGreatDoor
open Go Go.RowKit

set_option maxRecDepth 100000 in
set_option maxHeartbeats 4000000 in
theorem l11Single_any (p lo : Nat) (t : Lts) (w : World) (hp : LtsPtr lo w p t) : Calls Tryz.prog 31 #[.pointer (some ⟨p, 0, none⟩)] w (Decides (Single t) w) := by
  obtain ⟨lv, ev, hpl, -, -, -, q3, -, he⟩ := hp
  obtain ⟨ae, ce, rfl, hen, hec, hrow⟩ := he
  have HQ3 := Lib.hid q3
  go_enter Tryz.func31, Tryz.ntmps31
  go_wp2
  go_loopw [3] (fun i wr => ∃ k : Nat, k ≤ t.edges.length ∧ i = .int .i64 k ∧ Below w.heap.size w wr ∧ (∀ q (h : q < t.edges.length), q < k → t.edges[q].lab ≠ 0) ∧ (∀ q (h : q + 1 < t.edges.length), q + 1 < k → ¬ (t.edges[q + 1].src = t.edges[q].src ∧ t.edges[q + 1].lab = t.edges[q].lab))) (fun i _ => t.edges.length - (intOf i).toNat)
  case atStart => exact ⟨0, Nat.zero_le _, rfl, Below.refl _ _, fun _ _ h => by omega, fun _ _ h => by omega⟩
  case round =>
    obtain ⟨k, hk, rfl, hbl, hx1, hx2⟩ := hrel
    have HX1 := Lib.hid hx1
    have HX2 := Lib.hid hx2
    have HBL := Lib.hid hbl
    have hsz := hbl.size
    replace q3 := keeps hbl hpl HQ3.out
    clear hx1 hx2 hbl
    by_cases hlt : k < t.edges.length
    · obtain ⟨be, oe, rfl, -, hbe, e1, e2, e3⟩ := (hrow.below HBL.out).edge hlt
      have s3 := later_cell (show p < wr.heap.size by omega) q3
      replace e1 := later_cell hbe e1
      replace e2 := later_cell hbe e2
      clear e3
      cases g1 : (t.edges[k].lab == 0)
      · have HG1 : Hid (t.edges[k].lab ≠ 0) := by unfold Hid; simpa using g1
        rcases Nat.eq_zero_or_pos k with hk0 | hk0
        · have hkz : k ≤ 0 := by omega
          have hk1 : decide ((0 : Int) < (k : Int)) = false := by rw [decide_eq_false_iff_not]; omega
          have hk2 : decide (0 < k) = false := by rw [decide_eq_false_iff_not]; omega
          have hk3 : ¬ (0 : Int) < (k : Int) := by omega
          have hk4 : ¬ 0 < k := by omega
          clear hk0 hrow
          go_wp2
          refine wp_region_later (by kernel_rfl) (by kernel_rfl) ?_
          repeat (go_big_quiet_step ((fail)))
          refine wpQuiet_nil ?_
          intro _ hw9
          obtain ⟨nl, hw8⟩ := hw9
          subst hw8
          clear e1 e2 g1
          have s3 := s3 nl
          go_wp2
          go_roundw
          case rel => exact ⟨k + 1, by omega, by go_num, HBL.out.trans (nl.h.mono hsz), fun q h h' => by
              obtain rfl : q = k := by omega
              exact HG1.out, fun q h h' => by omega⟩
          case measure => simp [intOf]; omega
        · obtain ⟨m, rfl⟩ : ∃ m, k = m + 1 := ⟨k - 1, by omega⟩
          clear hk0
          obtain ⟨_, _, e9, -, -, d1, d2, d3⟩ := (hrow.below HBL.out).edge (show m < t.edges.length by omega)
          simp only [Option.some.injEq, Addr.mk.injEq, and_true] at e9
          obtain ⟨rfl, rfl⟩ := e9
          replace d1 := later_cell hbe d1
          replace d2 := later_cell hbe d2
          clear d3 hrow
          have hk1 : decide ((0 : Int) < (m : Int) + 1) = true := by rw [decide_eq_true_eq]; omega
          have hk2 : (0 : Int) < (m : Int) + 1 := by omega
          cases g2 : (t.edges[m + 1].src == t.edges[m].src)
          · have HG2 : Hid (¬ t.edges[m + 1].src = t.edges[m].src) := by unfold Hid; simpa using g2
            go_wp2
            refine wp_region_later (by kernel_rfl) (by kernel_rfl) ?_
            repeat (go_big_quiet_step ((fail)))
            refine wpQuiet_nil ?_
            intro _ hw9
            obtain ⟨nl, hw8⟩ := hw9
            subst hw8
            clear e1 e2 g1 g2 d1 d2
            have s3 := s3 nl
            go_wp2
            go_roundw
            case rel => exact ⟨m + 1 + 1, by omega, by go_num, HBL.out.trans (nl.h.mono hsz), fun q h h' => by
                by_cases e : q = m + 1
                · subst e; exact HG1.out
                · exact HX1.out q h (by omega), fun q h h' => by
                by_cases e : q = m
                · subst e; exact fun h => HG2.out h.1
                · exact HX2.out q h (by omega)⟩
            case measure => simp [intOf]; omega
          · cases g3 : (t.edges[m + 1].lab == t.edges[m].lab)
            · have HG3 : Hid (¬ t.edges[m + 1].lab = t.edges[m].lab) := by unfold Hid; simpa using g3
              go_wp2
              refine wp_region_later (by kernel_rfl) (by kernel_rfl) ?_
              repeat (go_big_quiet_step ((fail)))
              refine wpQuiet_nil ?_
              intro _ hw9
              obtain ⟨nl, hw8⟩ := hw9
              subst hw8
              clear e1 e2 g1 g2 g3 d1 d2
              have s3 := s3 nl
              go_wp2
              go_roundw
              case rel => exact ⟨m + 1 + 1, by omega, by go_num, HBL.out.trans (nl.h.mono hsz), fun q h h' => by
                  by_cases e : q = m + 1
                  · subst e; exact HG1.out
                  · exact HX1.out q h (by omega), fun q h h' => by
                  by_cases e : q = m
                  · subst e; exact fun h => HG3.out h.2
                  · exact HX2.out q h (by omega)⟩
              case measure => simp [intOf]; omega
            · have HG2 : Hid (t.edges[m + 1].src = t.edges[m].src) := by unfold Hid; simpa using g2
              have HG3 : Hid (t.edges[m + 1].lab = t.edges[m].lab) := by unfold Hid; simpa using g3
              go_wp2
              refine wp_region_later (by kernel_rfl) (by kernel_rfl) ?_
              repeat (go_big_quiet_step ((fail)))
              refine wpQuiet_nil ?_
              intro _ hw9
              obtain ⟨nl, hw8⟩ := hw9
              subst hw8
              go_wp2
              go_ret
              exact ⟨false, rfl, ⟨(fun h => by cases h), fun h => absurd ⟨HG2.out, HG3.out⟩ (h.one m hlt)⟩, HBL.out.trans (nl.h.mono hsz)⟩
      · clear hrow
        have HG1 : Hid (t.edges[k].lab = 0) := by unfold Hid; simpa using g1
        go_wp2
        refine wp_region_later (by kernel_rfl) (by kernel_rfl) ?_
        repeat (go_big_quiet_step ((fail)))
        refine wpQuiet_nil ?_
        intro _ hw9
        obtain ⟨nl, hw8⟩ := hw9
        subst hw8
        go_wp2
        go_ret
        exact ⟨false, rfl, ⟨(fun h => by cases h), fun h => absurd HG1.out (h.visible k hlt)⟩, HBL.out.trans (nl.h.mono hsz)⟩
    · clear hrow
      go_wp2
      go_ret
      exact ⟨true, rfl, ⟨fun _ => ⟨fun q h => HX1.out q h (by omega), fun q h => HX2.out q h (by omega)⟩, fun _ => rfl⟩, HBL.out⟩

/-- A list of numbers of the call's own. -/
def MadeNums (xs : List Int) (w : World) (e : Ending) (w' : World) : Prop :=
  ∃ v, e = .returned v ∧ Below w.heap.size w w' ∧ w'.ownsRow w.heap.size 2 1 v xs.length (xs.map (Value.int .i64))

def MadeOut (t : Lts) (k : Int) (w : World) (e : Ending) (w' : World) : Prop :=
  ∃ v, e = .returned v ∧ Below w.heap.size w w' ∧ w'.ownsRow w.heap.size 73 3 v (outOf t k).length ((outOf t k).flatMap encE)

theorem info_edge2 : (Tryz.prog.info? 73).map (fun i => (i.zero, i.size, i.bytes)) = some (some (.agg #[.int .i64 0, .int .i64 0, .int .i64 0]), 3, 24) := by kernel_rfl

theorem three_new (w : World) (e : Edge) (t : TypeId) : ∀ j u, (encE e)[j]? = some u → (w.alloc (.cells #[.int .i64 e.src, .int .i64 e.lab, .int .i64 e.dst] t)).cell? ((⟨w.heap.size, 0, none⟩ : Addr).add j) = some u := by
  intro j u hu
  match j, hu with
  | 0, hu => simpa [encE, Addr.add] using hu
  | 1, hu => simpa [encE, Addr.add] using hu
  | 2, hu => simpa [encE, Addr.add] using hu
  | j + 3, hu => simp [encE] at hu

set_option maxRecDepth 100000 in
set_option maxHeartbeats 1000000 in
theorem l11Out_any (p lo : Nat) (t : Lts) (s : Int) (w : World) (hsmall : t.edges.length ≤ 1073741824) (hp : LtsPtr lo w p t) : Calls Tryz.prog 32 #[.pointer (some ⟨p, 0, none⟩), .int .i64 s] w (MadeOut t s w) := by
  obtain ⟨lv, ev, hpl, -, -, -, q3, -, he⟩ := hp
  obtain ⟨ae, ce, rfl, hen, hec, hrow⟩ := he
  obtain ⟨i0, hi, hz0, hz1, hz2⟩ := info_parts info_edge2
  have HQ3 := Lib.hid q3
  go_enter Tryz.func32, Tryz.ntmps32
  go_wp2
  clear q3
  go_loopw [5, 6] (fun v i wr => ∃ k : Nat, k ≤ t.edges.length ∧ i = .int .i64 k ∧ Below w.heap.size w wr ∧ wr.ownsRow w.heap.size 73 3 v ((t.edges.take k).filter fun e => e.src == s).length (((t.edges.take k).filter fun e => e.src == s).flatMap encE)) (fun _ i _ => t.edges.length - (intOf i).toNat)
  case atStart => exact ⟨0, Nat.zero_le _, rfl, (Below.refl _ _).alloc (Nat.le_refl _) _, World.ownsRow_lit (size := 3) w #[] 0 (Nat.le_refl _) (by simp [maxLen]) rfl⟩
  case round =>
    obtain ⟨k, hk, rfl, hbl, ho⟩ := hrel
    have HBL := Lib.hid hbl
    have HO := Lib.hid ho
    have hsz := hbl.size
    have q3 := keeps hbl hpl HQ3.out
    have hfl : ((t.edges.take k).filter fun e => e.src == s).length ≤ k := Nat.le_trans (List.length_filter_le _ _) (List.length_take_le _ _)
    clear hbl ho
    by_cases hlt : k < t.edges.length
    · obtain ⟨be, oe, rfl, -, hbe, e1, e2, e3⟩ := (hrow.below HBL.out).edge hlt
      clear hrow
      cases g : (t.edges[k].src == s)
      · have HL : Hid ((t.edges.take (k + 1)).filter (fun e => e.src == s) = (t.edges.take k).filter fun e => e.src == s) := by
          unfold Hid
          rw [List.take_succ_eq_append_getElem hlt, List.filter_append]
          simp [g]
        go_wp2
        go_roundw
        case rel => exact ⟨k + 1, by omega, by go_num, HBL.out, by rw [HL.out]; exact HO.out⟩
        case measure => simp [intOf]; omega
      · have HL : Hid ((t.edges.take (k + 1)).filter (fun e => e.src == s) = ((t.edges.take k).filter fun e => e.src == s) ++ [t.edges[k]]) := by
          unfold Hid
          rw [List.take_succ_eq_append_getElem hlt, List.filter_append]
          simp [g]
        generalize hfs : (t.edges.take k).filter (fun e => e.src == s) = fs at *
        have HFS := Lib.hid hfs
        clear hfs
        go_wp2_with (at_builtin; refine wpList_append_own _ rfl _ _ 32 rfl w.heap.size 73 i0 (.agg #[.int .i64 0, .int .i64 0, .int .i64 0]) 3 24 Tryz.underlying32 hi hz0 hz1 hz2 rfl (by decide) _ _ _ rfl (HO.out.alloc _) ⟨wr.heap.size, 0, none⟩ 1 1 (encE t.edges[k]) rfl rfl ?c1 ?c2 ?c3 ?c4 ?c5 ?_)
        case c1 => exact three_new _ _ _
        case c2 => intro u hu; simp [encE] at hu; rcases hu with rfl | rfl | rfl <;> rfl
        case c3 => simp [maxLen]; omega
        case c4 => omega
        case c5 => simp; omega
        intro v' w1 ho1 hg1 _
        have HO2 : Hid (w1.ownsRow w.heap.size 73 3 v' (fs ++ [t.edges[k]]).length ((fs ++ [t.edges[k]]).flatMap encE)) := by
          unfold Hid
          rw [List.length_append, List.flatMap_append, List.flatMap_singleton]
          exact ho1
        have HB2 : Hid (Below w.heap.size w w1) := (HBL.out.alloc hsz _).grown hg1 (by simp; omega) (fun b e => (HO.out.lt b e).1)
        clear ho1 hg1
        go_wp2
        go_roundw
        case rel => exact ⟨k + 1, by omega, by go_num, HB2.out, by rw [HL.out]; exact HO2.out⟩
        case measure => simp [intOf]; omega
    · clear hrow
      go_wp2
      go_ret
      obtain rfl : k = t.edges.length := by omega
      exact ⟨_, rfl, HBL.out, by unfold outOf; have := HO.out; rw [List.take_length] at this; exact this⟩

end Go.Proofs.YtkffdamgekoifaaGreatDoor
