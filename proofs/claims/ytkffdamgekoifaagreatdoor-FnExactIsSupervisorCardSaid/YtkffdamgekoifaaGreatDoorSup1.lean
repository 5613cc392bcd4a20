/-
  What the library's functions on slices of texts and of truth values compute; the name of a label; the lists of marked states and of names.
-/
import Derived.Test.YtkffdamgekoifaaGreatDoorImpl14
import Derived.Test.YtkffdamgekoifaaGreatDoorTri
namespace Go.Proofs.YtkffdamgekoifaaGreatDoor
open Go Go.RowKit

theorem Index_strs (lo : Nat) (v : Value) (x : ByteArray) (xs : List ByteArray) (w : World) (hv : SliceK 1 encS lo w v xs) :
    Calls Tryz.prog 74 #[v, .string x] w fun e w' => ∃ r : Int, e = .returned (.int .i64 r) ∧ decide (0 ≤ r) = (xs.any fun y => y.toList == x.toList) ∧ w = w' := by
  obtain ⟨a, c, rfl, hcn, hcc, hrow⟩ := hv
  go_enter Tryz.func74, Tryz.ntmps74
  go_wp2_with fail
  go_loop [8] (fun i => ∃ k : Nat, k ≤ xs.length ∧ i = .int .i64 k ∧ ∀ j (h : j < xs.length), j < k → (x.toList == xs[j].toList) = false) (fun i => xs.length - (intOf i).toNat)
  case atStart => exact ⟨0, Nat.zero_le _, rfl, fun _ _ h => by omega⟩
  case round =>
    obtain ⟨k, hk, rfl, ha⟩ := hrel
    have HA := Lib.hid ha
    clear ha
    by_cases hlt : k < xs.length
    · obtain ⟨b1, o1, rfl, -, hbs, c1⟩ := hrow.one hlt
      simp only [encS, List.getElem?_cons_zero] at c1
      clear hrow
      cases h0 : (x.toList == xs[k].toList)
      · have H0 := Lib.hid h0
        go_wp2_with fail
        go_round
        case rel => exact ⟨k + 1, by omega, by go_num, fun j h hj => by
          by_cases e : j = k
          · subst e; exact H0.out
          · exact HA.out j h (by omega)⟩
        case measure => simp [intOf]; omega
      · have HF : Hid ((xs.any fun y => y.toList == x.toList) = true) := by
          unfold Hid
          rw [List.any_eq_true]
          exact ⟨xs[k], List.getElem_mem _, by rw [beq_iff_eq] at h0 ⊢; exact h0.symm⟩
        go_wp2_with fail
        go_ret
        exact ⟨_, rfl, by rw [HF.out]; simp, rfl⟩
    · clear hrow
      go_wp2_with fail
      go_ret
      refine ⟨_, rfl, ?_, rfl⟩
      have : (xs.any fun y => y.toList == x.toList) = false := by
        rw [List.any_eq_false]
        intro y hy
        obtain ⟨j, hj, rfl⟩ := List.mem_iff_getElem.1 hy
        have := HA.out j hj (by omega)
        simp at this ⊢
        exact fun e => this e.symm
      rw [this]; simp

theorem Contains_strs (lo : Nat) (v : Value) (x : ByteArray) (xs : List ByteArray) (w : World) (hv : SliceK 1 encS lo w v xs) :
    Calls Tryz.prog 62 #[v, .string x] w fun e w' => e = .returned (.bool (xs.any fun y => y.toList == x.toList)) ∧ w = w' := by
  have HV := Lib.hid hv
  clear hv
  go_enter Tryz.func62, Tryz.ntmps62
  go_wp2_with fail
  refine (Index_strs lo v x xs _ HV.out).mono ?_
  rintro e w' ⟨r, rfl, hr, rfl⟩
  have HR := Lib.hid hr
  clear hr
  go_wp2_with fail
  go_ret
  exact ⟨ret_bool HR.out, rfl⟩

theorem Index_bools (lo : Nat) (v : Value) (x : Bool) (xs : List Bool) (w : World) (hv : SliceK 1 encB lo w v xs) :
    Calls Tryz.prog 49 #[v, .bool x] w fun e w' => ∃ r : Int, e = .returned (.int .i64 r) ∧ decide (0 ≤ r) = (xs.any fun y => y == x) ∧ w = w' := by
  obtain ⟨a, c, rfl, hcn, hcc, hrow⟩ := hv
  go_enter Tryz.func49, Tryz.ntmps49
  go_wp2_with fail
  go_loop [8] (fun i => ∃ k : Nat, k ≤ xs.length ∧ i = .int .i64 k ∧ ∀ j (h : j < xs.length), j < k → (x == xs[j]) = false) (fun i => xs.length - (intOf i).toNat)
  case atStart => exact ⟨0, Nat.zero_le _, rfl, fun _ _ h => by omega⟩
  case round =>
    obtain ⟨k, hk, rfl, ha⟩ := hrel
    have HA := Lib.hid ha
    clear ha
    by_cases hlt : k < xs.length
    · obtain ⟨b1, o1, rfl, -, hbs, c1⟩ := hrow.one hlt
      simp only [encB, List.getElem?_cons_zero] at c1
      clear hrow
      cases h0 : (x == xs[k])
      · have H0 := Lib.hid h0
        go_wp2_with fail
        go_round
        case rel => exact ⟨k + 1, by omega, by go_num, fun j h hj => by
          by_cases e : j = k
          · subst e; exact H0.out
          · exact HA.out j h (by omega)⟩
        case measure => simp [intOf]; omega
      · have HF : Hid ((xs.any fun y => y == x) = true) := by
          unfold Hid
          rw [List.any_eq_true]
          exact ⟨xs[k], List.getElem_mem _, by rw [beq_iff_eq] at h0 ⊢; exact h0.symm⟩
        go_wp2_with fail
        go_ret
        exact ⟨_, rfl, by rw [HF.out]; simp, rfl⟩
    · clear hrow
      go_wp2_with fail
      go_ret
      refine ⟨_, rfl, ?_, rfl⟩
      have : (xs.any fun y => y == x) = false := by
        rw [List.any_eq_false]
        intro y hy
        obtain ⟨j, hj, rfl⟩ := List.mem_iff_getElem.1 hy
        have := HA.out j hj (by omega)
        simp at this ⊢
        exact fun e => this e.symm
      rw [this]; simp

theorem Contains_bools (lo : Nat) (v : Value) (x : Bool) (xs : List Bool) (w : World) (hv : SliceK 1 encB lo w v xs) :
    Calls Tryz.prog 24 #[v, .bool x] w fun e w' => e = .returned (.bool (xs.any fun y => y == x)) ∧ w = w' := by
  have HV := Lib.hid hv
  clear hv
  go_enter Tryz.func24, Tryz.ntmps24
  go_wp2_with fail
  refine (Index_bools lo v x xs _ HV.out).mono ?_
  rintro e w' ⟨r, rfl, hr, rfl⟩
  have HR := Lib.hid hr
  clear hr
  go_wp2_with fail
  go_ret
  exact ⟨ret_bool HR.out, rfl⟩

/-- The name of a label. -/
theorem LabelName_any (s : ByteArray) (w : World) (hs : s.size ≤ 1048576) (hl : labelOk s.data.toList = true) (g : Glob w) :
    Calls Tryz.prog 64 #[.string s] w fun e w' => e = .returned (.string ⟨(labName s).toArray⟩) ∧ Below w.heap.size w w' := by
  have G := Lib.hid g
  have HN : Hid ((Lib.cut s.data.toList [40]).1 = labName s) := by
    unfold Hid labName
    rw [cut_eq]
    split
    · rfl
    · next h => rw [List.take_of_length_le (by omega)]
  have HOK : Hid (readOk s.data.toList = true) := by unfold Hid; rw [readOk_eq]; exact hl
  clear g hl
  go_enter Tryz.func64, Tryz.ntmps64
  go_wp2_with fail
  refine (readLabel_any _ _ hs G.out).mono ?_
  rintro e w' ⟨n, v, rfl, hb, hn⟩
  have HB := Lib.hid hb
  have HNV := Lib.hid (hn HOK.out)
  clear hb hn
  go_wp2_with fail
  go_ret
  exact ⟨by rw [HNV.out, HN.out]; rfl, HB.out⟩

set_option maxRecDepth 100000 in
set_option maxHeartbeats 2000000 in
theorem statesOk_any (lo : Nat) (t : Lts) (lv ev v : Value) (xs : List Int) (w : World) (h1 : 1 ≤ t.states) (h2 : t.states ≤ 40) (hv : SliceK 1 encI lo w v xs) :
    Calls Tryz.prog 58 #[.agg #[.int .i64 t.states, .int .i64 t.initial, lv, ev], v] w (Decides (Rises xs t.states) w) := by
  obtain ⟨a, cap, rfl, hn, hcap, hrow⟩ := hv
  have HB0 := Lib.hid (box_below w #[.int .i64 t.states, .int .i64 t.initial, lv, ev] 34)
  obtain ⟨W, hW⟩ : ∃ W, W = w.alloc (.cells #[.int .i64 t.states, .int .i64 t.initial, lv, ev] 34) := ⟨_, rfl⟩
  have hbx : Blk W w.heap.size [.int .i64 t.states, .int .i64 t.initial, lv, ev] 34 := by rw [hW]; exact Blk.new w _ _
  rw [← hW] at HB0
  have HBX := Lib.hid hbx
  have HW := Lib.hid hW
  obtain ⟨b0, hb0⟩ : ∃ b0, b0 = w.heap.size := ⟨_, rfl⟩
  rw [← hb0] at HBX
  have HROW := Lib.hid (hrow.below HB0.out)
  have HZ0 := Lib.hid hb0
  clear hbx hW hrow
  go_enter Tryz.func58, Tryz.ntmps58
  go_wp2_with fail
  rw [← HW.out, ← hb0]
  clear hb0
  go_loopw [9] (fun i wr => ∃ k : Nat, k ≤ xs.length ∧ i = .int .i64 k ∧ Below W.heap.size W wr ∧ (∀ j (h : j < xs.length), j < k → inB xs[j] 0 (t.states - 1) = true) ∧ (∀ j (h : j + 1 < xs.length), j + 1 < k → xs[j] < xs[j + 1])) (fun i _ => xs.length - (intOf i).toNat)
  case atStart => exact ⟨0, Nat.zero_le _, rfl, Below.refl _ _, fun _ _ h => by omega, fun _ _ h => by omega⟩
  case round =>
    obtain ⟨k, hk, rfl, hbl, hx1, hx2⟩ := hrel
    have HX1 := Lib.hid hx1
    have HX2 := Lib.hid hx2
    have HBL := Lib.hid hbl
    have hsz := hbl.size
    have x0 := (HBX.out.below hbl).cell 0 rfl
    have x1 := (HBX.out.below hbl).cell 1 rfl
    have x2 := (HBX.out.below hbl).cell 2 rfl
    have x3 := (HBX.out.below hbl).cell 3 rfl
    clear hx1 hx2
    by_cases hlt : k < xs.length
    · obtain ⟨b, o, rfl, -, hb, c⟩ := (HROW.out.below hbl).one hlt
      simp only [encI, List.getElem?_cons_zero] at c
      have HRR := Lib.hid (HROW.out.below hbl)
      obtain ⟨x, hx⟩ : ∃ x, x = xs[k] := ⟨_, rfl⟩
      rw [← hx] at c
      have HX := Lib.hid hx
      clear hbl hx
      cases hA : inB x 0 (t.states - 1)
      · have HA := Lib.hid hA
        clear hA
        go_wp2_with fail
        refine (isState_is HA.out _ h1 h2).mono ?_
        rintro e w1 ⟨rfl, hb1⟩
        have HB1 := Lib.hid (HBL.out.trans (hb1.mono hsz))
        clear hb1
        go_wp2_with fail
        go_ret
        refine ⟨false, rfl, ⟨(fun h => by cases h), fun h => ?_⟩, HB0.out.trans (HB1.out.mono HB0.out.size)⟩
        have h3 := h.low k hlt
        have h4 := h.high k hlt
        have h5 := HX.out
        rw [← h5] at h3 h4
        exact absurd ⟨h3, by omega⟩ (inB_not HA.out)
      · have HA := Lib.hid hA
        clear hA
        rcases Nat.eq_zero_or_pos k with hk0 | hk0
        · have hk1 : decide ((0 : Int) < (k : Int)) = false := by rw [decide_eq_false_iff_not]; omega
          have hk3 : ¬ (0 : Int) < (k : Int) := by omega
          have hk4 : ¬ 0 < k := by omega
          have HK : Hid (k = 0) := hk0
          clear hk0
          go_wp2_with fail
          refine (isState_is HA.out _ h1 h2).mono ?_
          rintro e w1 ⟨rfl, hb1⟩
          have HB1 := Lib.hid (HBL.out.trans (hb1.mono hsz))
          clear hb1
          go_wp2_with fail
          go_roundw
          case rel => exact ⟨k + 1, by omega, by go_num, HB1.out, fun j h h' => by
              obtain rfl : j = k := by have := HK.out; omega
              rw [← HX.out]; exact HA.out, fun j h h' => by have := HK.out; omega⟩
          case measure => simp [intOf]; omega
        · obtain ⟨m, rfl⟩ : ∃ m, k = m + 1 := ⟨k - 1, by omega⟩
          clear hk0
          obtain ⟨_, _, e9, -, -, c2⟩ := HRR.out.one (show m < xs.length by omega)
          simp only [Option.some.injEq, Addr.mk.injEq, and_true] at e9
          obtain ⟨rfl, rfl⟩ := e9
          simp only [encI, List.getElem?_cons_zero] at c2
          obtain ⟨y, hy⟩ : ∃ y, y = xs[m] := ⟨_, rfl⟩
          rw [← hy] at c2
          have HY := Lib.hid hy
          clear hy
          have hk1 : decide ((0 : Int) < (m : Int) + 1) = true := by rw [decide_eq_true_eq]; omega
          have hk2 : (0 : Int) < (m : Int) + 1 := by omega
          by_cases hB : x ≤ y
          · have HB := Lib.hid hB
            have hB' : decide (x ≤ y) = true := decide_eq_true hB
            go_wp2_with fail
            refine (isState_is HA.out _ h1 h2).mono ?_
            rintro e w1 ⟨rfl, hb1⟩
            have c2' := keeps hb1 hb c2
            have HB1 := Lib.hid (HBL.out.trans (hb1.mono hsz))
            clear hb1
            go_wp2_with fail
            go_ret
            refine ⟨false, rfl, ⟨(fun h => by cases h), fun h => ?_⟩, HB0.out.trans (HB1.out.mono HB0.out.size)⟩
            have h3 := h.rise m hlt
            have h4 := HX.out
            have h5 := HY.out
            have h6 := HB.out
            omega
          · have HB := Lib.hid hB
            have hB' : decide (x ≤ y) = false := decide_eq_false hB
            go_wp2_with fail
            refine (isState_is HA.out _ h1 h2).mono ?_
            rintro e w1 ⟨rfl, hb1⟩
            have c2' := keeps hb1 hb c2
            have HB1 := Lib.hid (HBL.out.trans (hb1.mono hsz))
            clear hb1
            go_wp2_with fail
            go_roundw
            case rel => exact ⟨m + 1 + 1, by omega, by go_num, HB1.out, fun j h h' => by
                by_cases e : j = m + 1
                · subst e; rw [← HX.out]; exact HA.out
                · exact HX1.out j h (by omega), fun j h h' => by
                by_cases e : j = m
                · subst e; have h4 := HX.out; have h5 := HY.out; have h6 := HB.out; omega
                · exact HX2.out j h (by omega)⟩
            case measure => simp [intOf]; omega
    · go_wp2_with fail
      go_ret
      refine ⟨true, rfl, ⟨fun _ => ⟨fun i h => (inB_iff.1 (HX1.out i h (by omega))).1, fun i h => ?_, fun i h => HX2.out i h (by omega)⟩, fun _ => rfl⟩, HB0.out.trans (HBL.out.mono HB0.out.size)⟩
      have h3 := (inB_iff.1 (HX1.out i h (by omega))).2
      omega

set_option maxRecDepth 100000 in
set_option maxHeartbeats 2000000 in
theorem namesOk_any (lo : Nat) (v : Value) (ss : List ByteArray) (w : World) (hsh : Short20 ss) (hv : SliceK 1 encS lo w v ss) : Calls Tryz.prog 59 #[v] w (Decides (NamesOk ss) w) := by
  obtain ⟨a, cap, rfl, hn, hcap, hrow⟩ := hv
  have HSH := Lib.hid hsh
  have HROW := Lib.hid hrow
  clear hsh hrow
  go_enter Tryz.func59, Tryz.ntmps59
  go_wp2_with fail
  go_loopw [7] (fun i wr => ∃ k : Nat, k ≤ ss.length ∧ i = .int .i64 k ∧ Below w.heap.size w wr ∧ (∀ j (h : j < ss.length), j < k → isAction ss[j].data.toList = true) ∧ (∀ j (h : j + 1 < ss.length), j + 1 < k → strLess ss[j] ss[j + 1] = true)) (fun i _ => ss.length - (intOf i).toNat)
  case atStart => exact ⟨0, Nat.zero_le _, rfl, Below.refl _ _, fun _ _ h => by omega, fun _ _ h => by omega⟩
  case round =>
    obtain ⟨k, hk, rfl, hbl, hx1, hx2⟩ := hrel
    have HBL := Lib.hid hbl
    have HRR := Lib.hid (HROW.out.below hbl)
    have HX1 := Lib.hid hx1
    have HX2 := Lib.hid hx2
    clear hx1 hx2 hbl
    by_cases hlt : k < ss.length
    · obtain ⟨b, o, rfl, -, hb, c⟩ := HRR.out.one hlt
      simp only [encS, List.getElem?_cons_zero] at c
      have hsz : ss[k].size ≤ 1073741824 := Nat.le_trans (HSH.out k hlt) (by decide)
      obtain ⟨x, hx⟩ : ∃ x, x = ss[k] := ⟨_, rfl⟩
      rw [← hx] at c hsz
      have HX := Lib.hid hx
      have HC := Lib.hid (IsAction_any x wr hsz)
      clear hx
      cases hA : isAction x.data.toList
      · have HA := Lib.hid hA
        rw [hA] at HC
        clear hA
        go_wp2_with fail
        refine Calls.mono HC.out ?_
        rintro e w1 ⟨rfl, rfl⟩
        go_wp2_with fail
        go_ret
        refine ⟨false, rfl, ⟨(fun h => by cases h), fun h => ?_⟩, HBL.out⟩
        have h3 := h.action k hlt
        rw [← HX.out, HA.out] at h3
        cases h3
      · have HA := Lib.hid hA
        rw [hA] at HC
        clear hA
        rcases Nat.eq_zero_or_pos k with hk0 | hk0
        · have hk1 : decide ((0 : Int) < (k : Int)) = false := by rw [decide_eq_false_iff_not]; omega
          have hk3 : ¬ (0 : Int) < (k : Int) := by omega
          have hk4 : ¬ 0 < k := by omega
          have HK : Hid (k = 0) := hk0
          clear hk0
          go_wp2_with fail
          refine Calls.mono HC.out ?_
          rintro e w1 ⟨rfl, rfl⟩
          go_wp2_with fail
          go_roundw
          case rel => exact ⟨k + 1, by omega, by go_num, HBL.out, fun j h h' => by
              obtain rfl : j = k := by have := HK.out; omega
              rw [← HX.out]; exact HA.out, fun j h h' => by have := HK.out; omega⟩
          case measure => simp [intOf]; omega
        · obtain ⟨m, rfl⟩ : ∃ m, k = m + 1 := ⟨k - 1, by omega⟩
          clear hk0
          obtain ⟨_, _, e9, -, -, c2⟩ := HRR.out.one (show m < ss.length by omega)
          simp only [Option.some.injEq, Addr.mk.injEq, and_true] at e9
          obtain ⟨rfl, rfl⟩ := e9
          simp only [encS, List.getElem?_cons_zero] at c2
          obtain ⟨y, hy⟩ : ∃ y, y = ss[m] := ⟨_, rfl⟩
          rw [← hy] at c2
          have HY := Lib.hid hy
          clear hy
          have hk1 : decide ((0 : Int) < (m : Int) + 1) = true := by rw [decide_eq_true_eq]; omega
          have hk2 : (0 : Int) < (m : Int) + 1 := by omega
          cases h3 : Op.bytesLess y.toList x.toList
          · have h4 : (Op.bytesLess x.toList y.toList || x.toList == y.toList) = true := by rw [less_leq, h3]; rfl
            have H3 := Lib.hid h3
            clear h3
            go_wp2_with fail
            refine Calls.mono HC.out ?_
            rintro e w1 ⟨rfl, rfl⟩
            go_wp2_with fail
            go_ret
            refine ⟨false, rfl, ⟨(fun h => by cases h), fun h => ?_⟩, HBL.out⟩
            have h5 := h.rise m hlt
            unfold strLess at h5
            rw [← HX.out, ← HY.out, H3.out] at h5
            cases h5
          · have h4 : (Op.bytesLess x.toList y.toList || x.toList == y.toList) = false := by rw [less_leq, h3]; rfl
            have H3 := Lib.hid h3
            clear h3
            go_wp2_with fail
            refine Calls.mono HC.out ?_
            rintro e w1 ⟨rfl, rfl⟩
            go_wp2_with fail
            go_roundw
            case rel => exact ⟨m + 1 + 1, by omega, by go_num, HBL.out, fun j h h' => by
                by_cases e : j = m + 1
                · subst e; rw [← HX.out]; exact HA.out
                · exact HX1.out j h (by omega), fun j h h' => by
                by_cases e : j = m
                · subst e; unfold strLess; rw [← HX.out, ← HY.out]; exact H3.out
                · exact HX2.out j h (by omega)⟩
            case measure => simp [intOf]; omega
    · by_cases h12 : ss.length ≤ 12
      · have h12' : decide ((ss.length : Int) ≤ 12) = true := by rw [decide_eq_true_eq]; omega
        have h12'' : (ss.length : Int) ≤ 12 := by omega
        go_wp2_with fail
        go_ret
        exact ⟨true, rfl, ⟨fun _ => ⟨h12, fun i h => HX1.out i h (by omega), fun i h => HX2.out i h (by omega)⟩, fun _ => rfl⟩, HBL.out⟩
      · have h12' : decide ((ss.length : Int) ≤ 12) = false := by rw [decide_eq_false_iff_not]; omega
        have h12'' : ¬ (ss.length : Int) ≤ 12 := by omega
        go_wp2_with fail
        go_ret
        exact ⟨false, rfl, ⟨(fun h => by cases h), fun h => absurd h.most h12⟩, HBL.out⟩

end Go.Proofs.YtkffdamgekoifaaGreatDoor
