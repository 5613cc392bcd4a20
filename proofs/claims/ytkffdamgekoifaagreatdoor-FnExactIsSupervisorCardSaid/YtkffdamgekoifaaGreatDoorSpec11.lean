/-
  What the reference's functions on marked states, on names, on the states behind a label and on the true places of a list compute.
-/
import Derived.Test.YtkffdamgekoifaaGreatDoorSpec10
namespace Go.Proofs.YtkffdamgekoifaaGreatDoor
open Go Go.RowKit

set_option maxRecDepth 100000 in
set_option maxHeartbeats 1000000 in
theorem l00Rises_any (lo : Nat) (v : Value) (xs : List Int) (n : Int) (w : World) (hv : SliceK 1 encI lo w v xs) : Calls Tryz.prog 28 #[v, .int .i64 0, .int .i64 (n - 1)] w (Decides (Rises xs n) w) := by
  obtain ⟨a, cap, rfl, hn, hcap, hrow⟩ := hv
  obtain ⟨m1, hm1⟩ : ∃ m1, m1 = n - 1 := ⟨_, rfl⟩
  rw [← hm1]
  have HM := Lib.hid hm1
  clear hm1
  go_enter Tryz.func28, Tryz.ntmps28
  go_wp2
  go_loopw [7] (fun i wr => ∃ k : Nat, k ≤ xs.length ∧ i = .int .i64 k ∧ Below w.heap.size w wr ∧ (∀ j (h : j < xs.length), j < k → inB xs[j] 0 m1 = true) ∧ (∀ j (h : j + 1 < xs.length), j + 1 < k → xs[j] < xs[j + 1])) (fun i _ => xs.length - (intOf i).toNat)
  case atStart => exact ⟨0, Nat.zero_le _, rfl, Below.refl _ _, fun _ _ h => by omega, fun _ _ h => by omega⟩
  case round =>
    obtain ⟨k, hk, rfl, hbl, hx1, hx2⟩ := hrel
    have HX1 := Lib.hid hx1
    have HX2 := Lib.hid hx2
    have HBL := Lib.hid hbl
    have hsz := hbl.size
    clear hx1 hx2
    by_cases hlt : k < xs.length
    · obtain ⟨b, o, rfl, -, hb, c⟩ := (hrow.below hbl).one hlt
      simp only [encI, List.getElem?_cons_zero] at c
      have s1 := later_cell hb c
      clear c
      cases hA : inB xs[k] 0 m1
      · have HA := Lib.hid hA
        clear hrow hbl
        go_wp2
        refine wp_region_later (by kernel_rfl) (by kernel_rfl) ?_
        repeat (go_big_quiet_step ((go_at_call 51; exact later_same (l00In_any _ _ _ _))))
        refine wpQuiet_nil ?_
        intro _ hw9
        obtain ⟨nl, hw8⟩ := hw9
        subst hw8
        go_wp2
        go_ret
        refine ⟨false, rfl, ⟨(fun h => by cases h), fun h => ?_⟩, HBL.out.trans (nl.h.mono hsz)⟩
        have h1 := h.low k hlt
        have h2 := h.high k hlt
        exact absurd ⟨h1, by have := HM.out; omega⟩ (inB_not HA.out)
      · have HA := Lib.hid hA
        rcases Nat.eq_zero_or_pos k with hk0 | hk0
        · have hk1 : decide ((0 : Int) < (k : Int)) = false := by rw [decide_eq_false_iff_not]; omega
          have hk2 : decide (0 < k) = false := by rw [decide_eq_false_iff_not]; omega
          have hk3 : ¬ (0 : Int) < (k : Int) := by omega
          have hk4 : ¬ 0 < k := by omega
          have HK : Hid (k = 0) := hk0
          clear hrow hbl hk0
          go_wp2
          refine wp_region_later (by kernel_rfl) (by kernel_rfl) ?_
          repeat (go_big_quiet_step ((go_at_call 51; exact later_same (l00In_any _ _ _ _))))
          refine wpQuiet_nil ?_
          intro _ hw9
          obtain ⟨nl, hw8⟩ := hw9
          subst hw8
          go_wp2
          go_roundw
          case rel => exact ⟨k + 1, by omega, by go_num, HBL.out.trans (nl.h.mono hsz), fun j h h' => by
              obtain rfl : j = k := by have := HK.out; omega
              exact HA.out, fun j h h' => by have := HK.out; omega⟩
          case measure => simp [intOf]; omega
        · obtain ⟨m, rfl⟩ : ∃ m, k = m + 1 := ⟨k - 1, by omega⟩
          clear hk0
          obtain ⟨_, _, e9, -, -, c⟩ := (hrow.below hbl).one (show m < xs.length by omega)
          simp only [Option.some.injEq, Addr.mk.injEq, and_true] at e9
          obtain ⟨rfl, rfl⟩ := e9
          simp only [encI, List.getElem?_cons_zero] at c
          have s2 := later_cell hb c
          clear c hrow hbl
          have hk1 : decide ((0 : Int) < (m : Int) + 1) = true := by rw [decide_eq_true_eq]; omega
          have hk2 : (0 : Int) < (m : Int) + 1 := by omega
          by_cases hB : xs[m + 1] ≤ xs[m]
          · have HB := Lib.hid hB
            have hB' : decide (xs[m + 1] ≤ xs[m]) = true := decide_eq_true hB
            go_wp2
            refine wp_region_later (by kernel_rfl) (by kernel_rfl) ?_
            repeat (go_big_quiet_step ((go_at_call 51; exact later_same (l00In_any _ _ _ _))))
            refine wpQuiet_nil ?_
            intro _ hw9
            obtain ⟨nl, hw8⟩ := hw9
            subst hw8
            go_wp2
            go_ret
            refine ⟨false, rfl, ⟨(fun h => by cases h), fun h => ?_⟩, HBL.out.trans (nl.h.mono hsz)⟩
            have h1 := h.rise m hlt
            have := HB.out
            omega
          · have HB : Hid (xs[m] < xs[m + 1]) := by unfold Hid; omega
            have hB' : decide (xs[m + 1] ≤ xs[m]) = false := decide_eq_false hB
            go_wp2
            refine wp_region_later (by kernel_rfl) (by kernel_rfl) ?_
            repeat (go_big_quiet_step ((go_at_call 51; exact later_same (l00In_any _ _ _ _))))
            refine wpQuiet_nil ?_
            intro _ hw9
            obtain ⟨nl, hw8⟩ := hw9
            subst hw8
            go_wp2
            go_roundw
            case rel => exact ⟨m + 1 + 1, by omega, by go_num, HBL.out.trans (nl.h.mono hsz), fun j h h' => by
                by_cases e : j = m + 1
                · subst e; exact HA.out
                · exact HX1.out j h (by omega), fun j h h' => by
                by_cases e : j = m
                · subst e; exact HB.out
                · exact HX2.out j h (by omega)⟩
            case measure => simp [intOf]; omega
    · clear hrow hbl
      go_wp2
      go_ret
      refine ⟨true, rfl, ⟨fun _ => ⟨fun i h => (inB_iff.1 (HX1.out i h (by omega))).1, fun i h => ?_, fun i h => HX2.out i h (by omega)⟩, fun _ => rfl⟩, HBL.out⟩
      have h1 := (inB_iff.1 (HX1.out i h (by omega))).2
      have := HM.out
      omega

set_option maxRecDepth 100000 in
set_option maxHeartbeats 1000000 in
theorem l11Actions_any (lo : Nat) (v : Value) (ss : List ByteArray) (w : World) (hv : SliceK 1 encS lo w v ss) : Calls Tryz.prog 52 #[v] w (Decides (∀ i (h : i < ss.length), isAction ss[i].data.toList = true) w) := by
  obtain ⟨a, cap, rfl, hn, hcap, hrow⟩ := hv
  go_enter Tryz.func52, Tryz.ntmps52
  go_wp2
  go_loopw [3] (fun i wr => ∃ k : Nat, k ≤ ss.length ∧ i = .int .i64 k ∧ Below w.heap.size w wr ∧ (∀ j (h : j < ss.length), j < k → isAction ss[j].data.toList = true)) (fun i _ => ss.length - (intOf i).toNat)
  case atStart => exact ⟨0, Nat.zero_le _, rfl, Below.refl _ _, fun _ _ h => by omega⟩
  case round =>
    obtain ⟨k, hk, rfl, hbl, hx1⟩ := hrel
    have HX1 := Lib.hid hx1
    have HBL := Lib.hid hbl
    have hsz := hbl.size
    clear hx1
    by_cases hlt : k < ss.length
    · obtain ⟨b, o, rfl, -, hb, c⟩ := (hrow.below hbl).one hlt
      simp only [encS, List.getElem?_cons_zero] at c
      clear hrow hbl
      have HC := Lib.hid (l01Action_any ss[k] wr)
      cases hA : isAction ss[k].data.toList
      · have HA := Lib.hid hA
        rw [hA] at HC
        clear hA
        go_wp2_with fail
        refine Calls.mono HC.out ?_
        rintro e w' ⟨rfl, rfl⟩
        go_wp2_with fail
        go_ret
        refine ⟨false, rfl, ⟨(fun h => by cases h), fun h => ?_⟩, HBL.out⟩
        have := h k hlt
        rw [HA.out] at this
        cases this
      · have HA := Lib.hid hA
        rw [hA] at HC
        clear hA
        go_wp2_with fail
        refine Calls.mono HC.out ?_
        rintro e w' ⟨rfl, rfl⟩
        go_wp2_with fail
        go_roundw
        case rel => exact ⟨k + 1, by omega, by go_num, HBL.out, fun j h h' => by
            by_cases e : j = k
            · subst e; exact HA.out
            · exact HX1.out j h (by omega)⟩
        case measure => simp [intOf]; omega
    · clear hrow hbl
      go_wp2
      go_ret
      exact ⟨true, rfl, ⟨fun _ i h => HX1.out i h (by omega), fun _ => rfl⟩, HBL.out⟩

set_option maxRecDepth 100000 in
set_option maxHeartbeats 1000000 in
theorem l05Names_any (lo : Nat) (v : Value) (ss : List ByteArray) (w : World) (hv : SliceK 1 encS lo w v ss) : Calls Tryz.prog 29 #[v] w (Decides (NamesOk ss) w) := by
  have HV := Lib.hid hv
  obtain ⟨a, cap, rfl, hn, hcap, hrow⟩ := hv
  by_cases h12 : 12 < ss.length
  · have h12' : decide (12 < (ss.length : Int)) = true := by simp; omega
    have h12'' : (12 : Int) < (ss.length : Int) := by omega
    clear hrow
    go_enter Tryz.func29, Tryz.ntmps29
    go_wp2_with fail
    go_ret
    exact ⟨false, rfl, ⟨(fun h => by cases h), fun h => by have := h.most; omega⟩, Below.refl _ _⟩
  · have h12' : decide (12 < (ss.length : Int)) = false := by simp; omega
    have h12'' : ¬ (12 : Int) < (ss.length : Int) := by omega
    by_cases hact : ∀ i (h : i < ss.length), isAction ss[i].data.toList = true
    · have HC := Lib.hid (Decides.yes (l11Actions_any lo _ ss w HV.out) hact)
      have HACT := Lib.hid hact
      clear hact
      go_enter Tryz.func29, Tryz.ntmps29
      go_wp2_with fail
      refine Calls.mono HC.out ?_
      rintro e w1 ⟨rfl, hb1⟩
      have HB1 := Lib.hid hb1
      have hrow1 := hrow.below hb1
      clear hb1 hrow HC
      go_wp2_with fail
      go_loopw [3] (fun i wr => ∃ m : Nat, m ≤ ss.length ∧ i = .int .i64 ((m : Int) + 1) ∧ Below w1.heap.size w1 wr ∧ (∀ j (h : j + 1 < ss.length), j < m → strLess ss[j] ss[j + 1] = true)) (fun i _ => ss.length + 1 - (intOf i).toNat)
      case atStart => exact ⟨0, Nat.zero_le _, rfl, Below.refl _ _, fun _ _ h => by omega⟩
      case round =>
        obtain ⟨m, hm, rfl, hbl, hx1⟩ := hrel
        have HX1 := Lib.hid hx1
        have HBL := Lib.hid hbl
        have hsz := hbl.size
        clear hx1
        by_cases hlt : m + 1 < ss.length
        · have hle : (m : Int) + 1 < ss.length := by omega
          obtain ⟨b, o, rfl, -, hb, c⟩ := (hrow1.below hbl).one hlt
          obtain ⟨_, _, e9, -, -, c2⟩ := (hrow1.below hbl).one (show m < ss.length by omega)
          simp only [Option.some.injEq, Addr.mk.injEq, and_true] at e9
          obtain ⟨rfl, rfl⟩ := e9
          simp only [encS, List.getElem?_cons_zero] at c c2
          have s1 := later_cell hb c
          have s2 := later_cell hb c2
          clear c c2 hrow1 hbl
          cases hD : Op.bytesLess ss[m].toList ss[m + 1].toList
          · have HD := Lib.hid hD
            go_wp2
            refine wp_region_later (by kernel_rfl) (by kernel_rfl) ?_
            repeat (go_big_quiet_step ((fail)))
            refine wpQuiet_nil ?_
            intro _ hw9
            obtain ⟨nl, hw8⟩ := hw9
            subst hw8
            go_wp2
            go_ret
            refine ⟨false, rfl, ⟨(fun h => by cases h), fun h => ?_⟩, HB1.out.trans ((HBL.out.trans (nl.h.mono hsz)).mono HB1.out.size)⟩
            have := h.rise m hlt
            unfold strLess at this
            rw [HD.out] at this
            cases this
          · have HD := Lib.hid hD
            go_wp2
            refine wp_region_later (by kernel_rfl) (by kernel_rfl) ?_
            repeat (go_big_quiet_step ((fail)))
            refine wpQuiet_nil ?_
            intro _ hw9
            obtain ⟨nl, hw8⟩ := hw9
            subst hw8
            go_wp2
            go_roundw
            case rel => exact ⟨m + 1, by omega, by go_num, HBL.out.trans (nl.h.mono hsz), fun j h h' => by
                by_cases e : j = m
                · subst e; exact HD.out
                · exact HX1.out j h (by omega)⟩
            case measure => simp [intOf]; omega
        · have hle : ¬ (m : Int) + 1 < ss.length := by omega
          clear hrow1 hbl
          go_wp2
          go_ret
          exact ⟨true, rfl, ⟨fun _ => ⟨by omega, HACT.out, fun i h => HX1.out i h (by omega)⟩, fun _ => rfl⟩, HB1.out.trans (HBL.out.mono HB1.out.size)⟩
    · have HC := Lib.hid (Decides.no (l11Actions_any lo _ ss w HV.out) hact)
      have HACT := Lib.hid hact
      clear hact hrow
      go_enter Tryz.func29, Tryz.ntmps29
      go_wp2_with fail
      refine Calls.mono HC.out ?_
      rintro e w1 ⟨rfl, hb1⟩
      have HB1 := Lib.hid hb1
      clear hb1
      go_wp2_with fail
      go_ret
      exact ⟨false, rfl, ⟨(fun h => by cases h), fun h => absurd h.action HACT.out⟩, HB1.out⟩

/-- The states behind the edges from a state with a label's number. -/
def nextB (k l : Int) (e : Edge) : Bool := (e.src == k) && (e.lab == l)
theorem next_take {t : Lts} {s l : Int} {k : Nat} (h : k < t.edges.length) (g : nextB s l t.edges[k] = true) :
    ((t.edges.take (k + 1)).filter (nextB s l)).map Edge.dst = ((t.edges.take k).filter (nextB s l)).map Edge.dst ++ [t.edges[k].dst] := by
  rw [List.take_succ_eq_append_getElem h, List.filter_append, List.map_append]
  simp [g]
theorem next_miss {t : Lts} {s l : Int} {k : Nat} (h : k < t.edges.length) (g : nextB s l t.edges[k] = false) :
    ((t.edges.take (k + 1)).filter (nextB s l)).map Edge.dst = ((t.edges.take k).filter (nextB s l)).map Edge.dst := by
  rw [List.take_succ_eq_append_getElem h, List.filter_append, List.map_append]
  simp [g]

set_option maxRecDepth 100000 in
set_option maxHeartbeats 1000000 in
theorem l11Next_any (p lo : Nat) (t : Lts) (s l : Int) (w : World) (hsmall : t.edges.length ≤ 1073741824) (hp : LtsPtr lo w p t) :
    Calls Tryz.prog 55 #[.pointer (some ⟨p, 0, none⟩), .int .i64 s, .int .i64 l] w (MadeNums ((t.edges.filter (nextB s l)).map Edge.dst) w) := by
  obtain ⟨lv, ev, hpl, -, -, -, q3, -, he⟩ := hp
  obtain ⟨ae, ce, rfl, hen, hec, hrow⟩ := he
  obtain ⟨i0, hi, hz0, hz1, hz2⟩ := info_parts info_int64
  have HQ3 := Lib.hid q3
  go_enter Tryz.func55, Tryz.ntmps55
  go_wp2
  clear q3
  go_loopw [7, 8] (fun v i wr => ∃ k : Nat, k ≤ t.edges.length ∧ i = .int .i64 k ∧ Below w.heap.size w wr ∧ wr.ownsRow w.heap.size 2 1 v (((t.edges.take k).filter (nextB s l)).map Edge.dst).length ((((t.edges.take k).filter (nextB s l)).map Edge.dst).map (Value.int .i64))) (fun _ i _ => t.edges.length - (intOf i).toNat)
  case atStart => exact ⟨0, Nat.zero_le _, rfl, (Below.refl _ _).alloc (Nat.le_refl _) _, World.ownsRow_lit (size := 1) w #[] 0 (Nat.le_refl _) (by simp [maxLen]) rfl⟩
  case round =>
    obtain ⟨k, hk, rfl, hbl, ho⟩ := hrel
    have HBL := Lib.hid hbl
    have HO := Lib.hid ho
    have hsz := hbl.size
    have q3 := keeps hbl hpl HQ3.out
    have hfl : (((t.edges.take k).filter (nextB s l)).map Edge.dst).length ≤ k := by rw [List.length_map]; exact Nat.le_trans (List.length_filter_le _ _) (List.length_take_le _ _)
    clear hbl ho
    by_cases hlt : k < t.edges.length
    · obtain ⟨be, oe, rfl, -, hbe, e1, e2, e3⟩ := (hrow.below HBL.out).edge hlt
      clear hrow
      obtain ⟨e, hee⟩ : ∃ e, e = t.edges[k] := ⟨_, rfl⟩
      rw [← hee] at e1 e2 e3
      have HEE := Lib.hid hee
      clear hee
      cases g : (e.src == s)
      · have HL : Hid (nextB s l t.edges[k] = false) := by unfold Hid nextB; rw [← HEE.out, g]; rfl
        go_wp2
        go_roundw
        case rel => exact ⟨k + 1, by omega, by go_num, HBL.out, by rw [next_miss hlt HL.out]; exact HO.out⟩
        case measure => simp [intOf]; omega
      · cases g2 : (e.lab == l)
        · have HL : Hid (nextB s l t.edges[k] = false) := by unfold Hid nextB; rw [← HEE.out, g, g2]; rfl
          go_wp2
          go_roundw
          case rel => exact ⟨k + 1, by omega, by go_num, HBL.out, by rw [next_miss hlt HL.out]; exact HO.out⟩
          case measure => simp [intOf]; omega
        · have HL : Hid (nextB s l t.edges[k] = true) := by unfold Hid nextB; rw [← HEE.out, g, g2]; rfl
          generalize hfs : ((t.edges.take k).filter (nextB s l)).map Edge.dst = fs at *
          have HFS := Lib.hid hfs
          clear hfs
          go_wp2_with (at_builtin; refine wpList_append_own _ rfl _ _ 26 rfl w.heap.size 2 i0 (.int .i64 0) 1 8 Tryz.underlying26 hi hz0 hz1 hz2 rfl (by decide) _ _ _ rfl (HO.out.alloc _) ⟨wr.heap.size, 0, none⟩ 1 1 [.int .i64 e.dst] rfl rfl ?c1 ?c2 ?c3 ?c4 ?c5 ?_)
          case c1 => exact (cell_one_new _ _ _)
          case c2 => intro u hu; simp at hu; subst hu; rfl
          case c3 => simp [maxLen]; omega
          case c4 => omega
          case c5 => simp; omega
          intro v' w3 ho1 hg1 _
          have HO2 : Hid (w3.ownsRow w.heap.size 2 1 v' (fs ++ [e.dst]).length ((fs ++ [e.dst]).map (Value.int .i64))) := by
            unfold Hid
            rw [List.length_append, List.map_append]
            exact ho1
          have HB2 : Hid (Below w.heap.size w w3) := (HBL.out.alloc hsz _).grown hg1 (by simp; omega) (fun b e => (HO.out.lt b e).1)
          clear ho1 hg1
          go_wp2
          go_roundw
          case rel => exact ⟨k + 1, by omega, by go_num, HB2.out, by rw [next_take hlt HL.out, HFS.out, ← HEE.out]; exact HO2.out⟩
          case measure => simp [intOf]; omega
    · clear hrow
      go_wp2
      go_ret
      obtain rfl : k = t.edges.length := by omega
      exact ⟨_, rfl, HBL.out, by have := HO.out; rw [List.take_length] at this; exact this⟩

/-- The true places of a list, up to the k-th. -/
def truesTo (l : List Bool) (k : Nat) : List Int := ((List.range k).filter fun i => l.getD i false).map fun (i : Nat) => (i : Int)
theorem truesTo_succ (l : List Bool) (k : Nat) : truesTo l (k + 1) = truesTo l k ++ if l.getD k false then [(k : Int)] else [] := by
  unfold truesTo
  rw [List.range_succ, List.filter_append, List.map_append]
  cases h : l.getD k false
  · have : [k].filter (fun i => l.getD i false) = [] := by rw [List.filter_cons, h]; rfl
    rw [this]; rfl
  · have : [k].filter (fun i => l.getD i false) = [k] := by rw [List.filter_cons, h]; rfl
    rw [this]; rfl
theorem truesTo_len (l : List Bool) (k : Nat) : (truesTo l k).length ≤ k := by
  unfold truesTo
  rw [List.length_map]
  exact Nat.le_trans (List.length_filter_le _ _) (by simp)
theorem truesTo_all (l : List Bool) : (truesTo l l.length).length = l.length ↔ ∀ i (h : i < l.length), l[i] = true := by
  unfold truesTo
  rw [List.length_map]
  have h1 : (List.filter (fun i => l.getD i false) (List.range l.length)).length = (List.range l.length).length ↔ ∀ a ∈ List.range l.length, l.getD a false = true := List.length_filter_eq_length_iff
  rw [List.length_range] at h1
  rw [h1]
  constructor
  · intro h i hi
    have := h i (List.mem_range.2 hi)
    simpa [List.getD, hi] using this
  · intro h i hi
    have hi' := List.mem_range.1 hi
    have := h i hi'
    simpa [List.getD, hi'] using this

set_option maxRecDepth 100000 in
set_option maxHeartbeats 1000000 in
theorem l15True_any (lo : Nat) (v : Value) (l : List Bool) (w : World) (hsmall : l.length ≤ 1073741824) (hv : SliceK 1 encB lo w v l) : Calls Tryz.prog 38 #[v] w (MadeNums (truesTo l l.length) w) := by
  obtain ⟨a, cap, rfl, hn, hcap, hrow⟩ := hv
  obtain ⟨i0, hi, hz0, hz1, hz2⟩ := info_parts info_int64
  go_enter Tryz.func38, Tryz.ntmps38
  go_wp2
  go_loopw [3, 4] (fun v i wr => ∃ k : Nat, k ≤ l.length ∧ i = .int .i64 k ∧ Below w.heap.size w wr ∧ wr.ownsRow w.heap.size 2 1 v (truesTo l k).length ((truesTo l k).map (Value.int .i64))) (fun _ i _ => l.length - (intOf i).toNat)
  case atStart => exact ⟨0, Nat.zero_le _, rfl, (Below.refl _ _).alloc (Nat.le_refl _) _, World.ownsRow_lit (size := 1) w #[] 0 (Nat.le_refl _) (by simp [maxLen]) rfl⟩
  case round =>
    obtain ⟨k, hk, rfl, hbl, ho⟩ := hrel
    have HBL := Lib.hid hbl
    have HO := Lib.hid ho
    have hsz := hbl.size
    have hfl := truesTo_len l k
    have HT := Lib.hid (truesTo_succ l k)
    clear hbl ho
    by_cases hlt : k < l.length
    · obtain ⟨b, o, rfl, -, hb, c⟩ := (hrow.below HBL.out).one hlt
      simp only [encB, List.getElem?_cons_zero] at c
      have hgd : l[k] = l.getD k false := by simp [List.getD, hlt]
      rw [hgd] at c
      clear hrow hgd
      cases hg : l.getD k false
      · rw [hg] at c HT
        clear hg
        go_wp2
        go_roundw
        case rel => exact ⟨k + 1, by omega, by go_num, HBL.out, by rw [HT.out]; simpa using HO.out⟩
        case measure => simp [intOf]; omega
      · rw [hg] at c HT
        clear hg
        obtain ⟨fs, hfs⟩ : ∃ fs, fs = truesTo l k := ⟨_, rfl⟩
        rw [← hfs] at HO HT hfl
        clear hfs
        go_wp2_with (at_builtin; refine wpList_append_own _ rfl _ _ 26 rfl w.heap.size 2 i0 (.int .i64 0) 1 8 Tryz.underlying26 hi hz0 hz1 hz2 rfl (by decide) _ _ _ rfl (HO.out.alloc _) ⟨wr.heap.size, 0, none⟩ 1 1 [.int .i64 k] rfl rfl ?c1 ?c2 ?c3 ?c4 ?c5 ?_)
        case c2 => rfl
        case c3 => simp [maxLen]; omega
        case c4 => omega
        case c5 => omega
        intro v' w3 ho1 hg1 _
        have HO2 : Hid (w3.ownsRow w.heap.size 2 1 v' (fs ++ [(k : Int)]).length ((fs ++ [(k : Int)]).map (Value.int .i64))) := by
          unfold Hid
          rw [List.length_append, List.map_append]
          exact ho1
        have HB2 : Hid (Below w.heap.size w w3) := (HBL.out.alloc hsz _).grown hg1 (by simp; omega) (fun b e => (HO.out.lt b e).1)
        clear ho1 hg1
        go_wp2
        go_roundw
        case rel => exact ⟨k + 1, by omega, by go_num, HB2.out, by rw [HT.out, if_pos trivial]; exact HO2.out⟩
        case measure => simp [intOf]; omega
    · clear hrow
      go_wp2
      go_ret
      obtain rfl : k = l.length := by omega
      exact ⟨_, rfl, HBL.out, HO.out⟩

end Go.Proofs.YtkffdamgekoifaaGreatDoor
