/-
  The law's helpers on plants: the size, the copy, the comparison where they are the same.
-/
import Derived.Test.YtkffdamgekoifaaGreatDoorLaws2
import Derived.Test.YtkffdamgekoifaaGreatDoorSup3
namespace Go.Proofs.YtkffdamgekoifaaGreatDoor
open Go Go.RowKit

theorem szInt64S_any (a : Option Addr) (cap n : Nat) (left : Int) (w : World) (h1 : 0 ≤ left) (h2 : left ≤ 1048576) (hn : n ≤ cap) (hcap : cap ≤ 9223372036854775807) :
    Calls Tryz.prog 12 #[.slice a n cap, .int .i64 left] w fun e w' => e = .returned (.int .i64 (szN n left)) ∧ w = w' := by
  by_cases hl : left - n < 0
  · go_enter Tryz.func12, Tryz.ntmps12
    go_wp2
    go_ret
    exact ⟨ret_int (szN_neg hl).symm, rfl⟩
  · go_enter Tryz.func12, Tryz.ntmps12
    go_wp2
    go_ret
    exact ⟨ret_int (szN_pos (by omega)).symm, rfl⟩

/-- What szPlant returns. -/
def szP (p : Plant) (left : Int) : Int :=
  if szL p.sys left < 0 then -1
  else if szN p.marks.length (szL p.sys left) < 0 then -1
  else if szSS p.names (szN p.marks.length (szL p.sys left)) < 0 then -1
  else szSS p.names (szN p.marks.length (szL p.sys left))

theorem szL_le (t : Lts) (left : Int) (h : 0 ≤ left) : szL t left ≤ left := by
  unfold szL
  have h1 := szSS_le t.labels left h
  split
  · omega
  · split
    · omega
    · next h2 =>
      by_cases h3 : szSS t.labels left - t.edges.length < 0
      · rw [szN_neg h3] at h2; omega
      · rw [szN_pos h3]; omega

set_option maxHeartbeats 1000000 in
theorem szPlant_any (lo : Nat) (p : Plant) (lv ev mv nv : Value) (left : Int) (w : World)
   (h1 : 0 ≤ left) (h2 : left ≤ 1048576) (hs : StrsOk p.sys.labels) (hn : StrsOk p.names) (hp : PlantIn lo w lv ev mv nv p) :
    Calls Tryz.prog 4 #[.agg #[.int .i64 p.sys.states, .int .i64 p.sys.initial, lv, ev, mv, nv], .int .i64 left] w
      fun e w' => e = .returned (.int .i64 (szP p left)) ∧ Below w.heap.size w w' := by
  obtain ⟨W, hW⟩ : ∃ W, W = w.alloc (.cells #[.int .i64 p.sys.states, .int .i64 p.sys.initial, lv, ev, mv, nv] 28) := ⟨_, rfl⟩
  obtain ⟨b0, hb0⟩ : ∃ b0, b0 = w.heap.size := ⟨_, rfl⟩
  obtain ⟨hB0, hBX⟩ := box6 hb0 hW
  rw [← hb0] at hBX
  have HB0 := Lib.hid hB0
  have HBX := Lib.hid hBX
  have HW := Lib.hid hW
  have HP := Lib.hid (hp.below hB0)
  have HZ := Lib.hid hb0
  have HN := Lib.hid hn
  have hsl := szL_le p.sys left h1
  have HC1 := Lib.hid (szLts_any (.agg #[.int .i64 p.sys.states, .int .i64 p.sys.initial, lv, ev]) lo p.sys left W h1 h2 hs ⟨lv, ev, rfl, HP.out.labels, HP.out.edges⟩)
  obtain ⟨⟨al, cl, rfl, -⟩, ⟨ae, ce, rfl, -⟩, ⟨am, cm, rfl, hmn, hmc, -⟩, ⟨an, cn, rfl, -⟩⟩ := hp
  have HF : Hid (szP p left = if szL p.sys left < 0 then -1 else if szN p.marks.length (szL p.sys left) < 0 then -1 else if szSS p.names (szN p.marks.length (szL p.sys left)) < 0 then -1 else szSS p.names (szN p.marks.length (szL p.sys left))) := rfl
  generalize szL p.sys left = q1 at *
  clear hs hn hB0 hBX hW hb0
  by_cases c1 : q1 < 0
  · go_enter Tryz.func4, Tryz.ntmps4
    go_wp2_with fail
    rw [← HW.out]
    refine Calls.mono HC1.out ?_
    rintro e w1 ⟨rfl, hb1⟩
    have HB1 := Lib.hid (HB0.out.trans (hb1.mono HB0.out.size))
    clear hb1
    go_wp2_with fail
    go_ret
    exact ⟨ret_int (by rw [HF.out, if_pos (by omega)]), HB1.out⟩
  have hq2 : szN p.marks.length q1 ≤ q1 := by
    by_cases h3 : q1 - p.marks.length < 0
    · rw [szN_neg h3]; omega
    · rw [szN_pos h3]; omega
  have HC2 := Lib.hid (fun w1 => szInt64S_any am cm p.marks.length q1 w1 (by omega) (by omega) hmn hmc)
  generalize szN p.marks.length q1 = q2 at *
  by_cases c2 : q2 < 0
  · go_enter Tryz.func4, Tryz.ntmps4
    go_wp2_with fail
    rw [← HW.out]
    refine Calls.mono HC1.out ?_
    rintro e w1 ⟨rfl, hb1⟩
    have HB1 := Lib.hid (HB0.out.trans (hb1.mono HB0.out.size))
    have x4 := (HBX.out.below hb1).cell 4 rfl
    rw [← HZ.out]
    clear hb1
    go_wp2_with fail
    refine Calls.mono (HC2.out _) ?_
    rintro e w2 ⟨rfl, rfl⟩
    go_wp2_with fail
    go_ret
    exact ⟨ret_int (by rw [HF.out, if_neg (by omega), if_pos (by omega)]), HB1.out⟩
  have HC3 := Lib.hid (fun w1 (hb : Below W.heap.size W w1) => szStringS_any _ lo p.names q2 w1 (by omega) (by omega) HN.out (HP.out.names.below hb))
  generalize szSS p.names q2 = q3 at *
  by_cases c3 : q3 < 0
  · go_enter Tryz.func4, Tryz.ntmps4
    go_wp2_with fail
    rw [← HW.out]
    refine Calls.mono HC1.out ?_
    rintro e w1 ⟨rfl, hb1⟩
    have HBR := Lib.hid hb1
    have HB1 := Lib.hid (HB0.out.trans (hb1.mono HB0.out.size))
    have x4 := (HBX.out.below hb1).cell 4 rfl
    have x5 := (HBX.out.below hb1).cell 5 rfl
    rw [← HZ.out]
    clear hb1
    go_wp2_with fail
    refine Calls.mono (HC2.out _) ?_
    rintro e w2 ⟨rfl, rfl⟩
    go_wp2_with fail
    refine Calls.mono (HC3.out _ HBR.out) ?_
    rintro e w3 ⟨rfl, rfl⟩
    go_wp2_with fail
    go_ret
    exact ⟨ret_int (by rw [HF.out, if_neg (by omega), if_neg (by omega), if_pos (by omega)]), HB1.out⟩
  · go_enter Tryz.func4, Tryz.ntmps4
    go_wp2_with fail
    rw [← HW.out]
    refine Calls.mono HC1.out ?_
    rintro e w1 ⟨rfl, hb1⟩
    have HBR := Lib.hid hb1
    have HB1 := Lib.hid (HB0.out.trans (hb1.mono HB0.out.size))
    have x4 := (HBX.out.below hb1).cell 4 rfl
    have x5 := (HBX.out.below hb1).cell 5 rfl
    rw [← HZ.out]
    clear hb1
    go_wp2_with fail
    refine Calls.mono (HC2.out _) ?_
    rintro e w2 ⟨rfl, rfl⟩
    go_wp2_with fail
    refine Calls.mono (HC3.out _ HBR.out) ?_
    rintro e w3 ⟨rfl, rfl⟩
    go_wp2_with fail
    go_ret
    exact ⟨ret_int (by rw [HF.out, if_neg (by omega), if_neg (by omega), if_neg (by omega)]), HB1.out⟩

theorem info_i64 : (Tryz.prog.info? 2).map (fun i => (i.zero, i.size, i.bytes)) = some (some (.int .i64 0), 1, 8) := by kernel_rfl
def MadeCopy (w : World) (xs : List Int) (e : Ending) (w' : World) : Prop :=
  e = .returned (.slice (some ⟨w.heap.size, 0, none⟩) xs.length xs.length) ∧ Below w.heap.size w w' ∧ w.heap.size < w'.heap.size ∧ w'.ownsRow w.heap.size 2 1 (.slice (some ⟨w.heap.size, 0, none⟩) xs.length xs.length) xs.length (xs.map (Value.int .i64))

set_option maxHeartbeats 400000 in
theorem toInt64S_any (v : Value) (lo : Nat) (ss : List Int) (w : World) (hn : ss.length ≤ 1048576) (hv : SliceK 1 encI lo w v ss) :
    Calls Tryz.prog 18 #[v] w (MadeCopy w ss) := by
  obtain ⟨a, ca, rfl, hna, hca, ha⟩ := hv
  obtain ⟨i0, hi, hz0, hz1, hz2⟩ := info_parts info_i64
  go_enter Tryz.func18, Tryz.ntmps18
  go_wp2_with (at_make; refine wpList_make_full _ rfl _ _ 26 rfl w.heap.size 2 i0 _ 1 Tryz.underlying26 hi hz0 hz1 .i64 .i64 _ _ ss.length rfl rfl rfl rfl ?_ ?_ ?_ ?_)
  · rw [hz2]; omega
  · simp [maxLen]; omega
  · exact Nat.le_refl _
  · intro w1 ho hg
    rw [toList_madeCells_one] at ho
    have hb1 : Below w.heap.size w w1 := (Below.refl _ w).grown hg (Nat.le_refl _) (fun _ h => by cases h)
    clear hi hz0 hz1 hz2 i0
    have HO := Lib.hid ho
    clear ho hg
    go_wp2
    go_loopw [4] (fun i wr => ∃ k : Nat, k ≤ ss.length ∧ i = .int .i64 k ∧ Below w.heap.size w wr ∧ wr.ownsRow w.heap.size 2 1 (.slice (some ⟨w.heap.size, 0, none⟩) ss.length ss.length) ss.length ((ss.take k).map (Value.int .i64) ++ List.replicate (ss.length - k) (.int .i64 0))) (fun i _ => ss.length - (intOf i).toNat)
    case atStart => exact ⟨0, Nat.zero_le _, rfl, hb1, by simpa using HO.out⟩
    case round =>
      obtain ⟨k, hk, rfl, hbl, ho⟩ := hrel
      clear HO hb1
      by_cases hlt : k < ss.length
      · obtain ⟨b1, o1, rfl, -, h1, c1⟩ := (ha.below hbl).one hlt
        simp only [encI, List.getElem?_cons_zero] at c1
        have c2 := ho.cellAt k (by omega)
        rw [filled_get _ _ _ _ hlt] at c2
        have c3 := ho.frozenAt k
        have ho2 := ho.stored k (.int .i64 ss[k])
        rw [filled_set _ _ _ _ hlt] at ho2
        have HO := Lib.hid ho2
        clear ho ho2 ha
        go_wp2
        go_roundw
        case rel => exact ⟨k + 1, by omega, by go_num, hbl.setCell (by exact Nat.le_refl _) _, HO.out.1⟩
        case measure => simp [intOf]; omega
      · clear ha
        go_wp2
        go_ret
        have hke : k = ss.length := by omega
        subst hke
        exact ⟨rfl, hbl, (ho.lt _ rfl).2, by simpa using ho⟩

theorem SliceK.only {α : Type} {k : Nat} {enc : α → List Value} {lo : Nat} {w w' : World} {S : Nat → Prop} {v : Value} {xs : List α} (h : SliceK k enc lo w v xs) (ho : Only S w w') (hS : ∀ k, S k → k < lo) : SliceK k enc lo w' v xs := by
  obtain ⟨a, cap, h1, h2, h4, h3⟩ := h
  refine ⟨a, cap, h1, h2, h4, ?_⟩
  rcases h3 with h | ⟨b, off, ha, h1, h2, h3⟩
  · exact .inl h
  · exact .inr ⟨b, off, ha, h1, Nat.lt_of_lt_of_le h2 ho.size, fun i hi j hj => by
      rw [World.cell?_of_block (w := w) (ho.block b h2 (fun e => by have := hS b e; omega))]; exact h3 i hi j hj⟩

/-- A copy of a plant. -/
def MadePlant (p : Plant) (w : World) (e : Ending) (w' : World) : Prop :=
  ∃ lv ev mv nv, e = .returned (.agg #[.int .i64 p.sys.states, .int .i64 p.sys.initial, lv, ev, mv, nv]) ∧ Below w.heap.size w w' ∧ PlantIn 0 w' lv ev mv nv p

set_option maxRecDepth 100000 in
set_option maxHeartbeats 2000000 in
theorem toPlant_any (lo : Nat) (p : Plant) (lv ev mv nv : Value) (w : World) (h1 : p.sys.labels.length ≤ 1048576) (h2 : p.sys.edges.length ≤ 1048576) (h3 : p.marks.length ≤ 1048576) (h4 : p.names.length ≤ 1048576) (hp : PlantIn lo w lv ev mv nv p) :
    Calls Tryz.prog 7 #[.agg #[.int .i64 p.sys.states, .int .i64 p.sys.initial, lv, ev, mv, nv]] w (MadePlant p w) := by
  obtain ⟨n0, hn0⟩ : ∃ n0, n0 = w.heap.size := ⟨_, rfl⟩
  obtain ⟨W, hW⟩ : ∃ W, W = ((w.alloc (.cells #[.int .i64 p.sys.states, .int .i64 p.sys.initial, lv, ev, mv, nv] 28)).alloc (.cells #[.int .i64 0, .int .i64 0, .slice none 0 0, .slice none 0 0, .slice none 0 0, .slice none 0 0] 36)).alloc (.cells #[.int .i64 0, .int .i64 0, .slice none 0 0, .slice none 0 0, .slice none 0 0, .slice none 0 0] 36) := ⟨_, rfl⟩
  have hbW : Below w.heap.size w W := by rw [hW]; exact (((Below.refl _ _).alloc (Nat.le_refl _) _).alloc (by simp) _).alloc (by simp; omega) _
  have B0 : Blk W n0 [.int .i64 p.sys.states, .int .i64 p.sys.initial, lv, ev, mv, nv] 28 := by
    rw [hW, hn0]; exact ((Blk.new w [.int .i64 p.sys.states, .int .i64 p.sys.initial, lv, ev, mv, nv] _).alloc _).alloc _
  have B1 : Blk W (n0 + 1) [.int .i64 0, .int .i64 0, .slice none 0 0, .slice none 0 0, .slice none 0 0, .slice none 0 0] 36 := by
    rw [hW, hn0]
    have := Blk.new (w.alloc (.cells #[.int .i64 p.sys.states, .int .i64 p.sys.initial, lv, ev, mv, nv] 28)) [.int .i64 0, .int .i64 0, .slice none 0 0, .slice none 0 0, .slice none 0 0, .slice none 0 0] 36
    rw [World.size_alloc] at this
    exact this.alloc _
  have B2 : Blk W (n0 + 1 + 1) [.int .i64 0, .int .i64 0, .slice none 0 0, .slice none 0 0, .slice none 0 0, .slice none 0 0] 36 := by
    rw [hW, hn0]
    have := Blk.new ((w.alloc (.cells #[.int .i64 p.sys.states, .int .i64 p.sys.initial, lv, ev, mv, nv] 28)).alloc (.cells #[.int .i64 0, .int .i64 0, .slice none 0 0, .slice none 0 0, .slice none 0 0, .slice none 0 0] 36)) [.int .i64 0, .int .i64 0, .slice none 0 0, .slice none 0 0, .slice none 0 0, .slice none 0 0] 36
    rw [World.size_alloc, World.size_alloc] at this
    exact this
  have hWs : W.heap.size = n0 + 1 + 1 + 1 := by rw [hW, hn0]; simp
  have HP := Lib.hid (hp.below hbW)
  have hp0 := Lib.hid hp
  have HBW := Lib.hid hbW
  have HB0 := Lib.hid B0
  have HB1 := Lib.hid B1
  have HB2 := Lib.hid B2
  have HW := Lib.hid hW
  have HN0 := Lib.hid hn0
  have HWS := Lib.hid hWs
  have HC1 := Lib.hid (toLts_any (.agg #[.int .i64 p.sys.states, .int .i64 p.sys.initial, lv, ev]) lo p.sys W h1 h2 ⟨lv, ev, rfl, HP.out.labels, HP.out.edges⟩)
  obtain ⟨⟨al, cl, rfl, -⟩, ⟨ae, ce, rfl, -⟩, ⟨am, cm, rfl, -⟩, ⟨an, cn, rfl, -⟩⟩ := hp
  clear hbW B0 B1 B2 hW hn0 hWs h1 h2
  go_enter Tryz.func7, Tryz.ntmps7
  go_wp2_with fail
  rw [← HW.out, ← HN0.out]
  refine Calls.mono HC1.out ?_
  rintro e w1 ⟨b1, b2, rfl, hb1, hlb1, hlb2, hlb3, ho1, ho2⟩
  rw [HWS.out] at hlb1 ho1
  have L1 : Hid (SliceK 1 encS (n0 + 1 + 1 + 1) w1 (.slice (some ⟨b1, 0, none⟩) p.sys.labels.length p.sys.labels.length) p.sys.labels) := SliceK.of_owns (e := 9) encS_len rfl (by rw [flat_encS]; exact ho1)
  have E1 : Hid (SliceK 3 encE (n0 + 1 + 1 + 1) w1 (.slice (some ⟨b2, 0, none⟩) p.sys.edges.length p.sys.edges.length) p.sys.edges) := SliceK.mono (SliceK.of_owns (e := 73) encE_len rfl ho2) (by omega)
  have X0 := Lib.hid (HB0.out.below hb1)
  have X1 := Lib.hid (HB1.out.below hb1)
  have X2 := Lib.hid (HB2.out.below hb1)
  have HO1 := Lib.hid (show Only (fun k => k = n0 + 1 ∨ k = n0 + 1 + 1) w w1 from Only.below (HBW.out.trans (hb1.mono HBW.out.size)))
  have f0 := X2.out.frozen 0
  have f1 := X2.out.frozen 1
  have f2 := X2.out.frozen 2
  have f3 := X2.out.frozen 3
  have y0 := X2.out.cell 0 rfl
  have y1 := X2.out.cell 1 rfl
  have y2 := X2.out.cell 2 rfl
  have y3 := X2.out.cell 3 rfl
  have x4 := X0.out.cell 4 rfl
  clear hb1 ho1 ho2 hlb1 hlb2 hlb3 HC1 HB0 HB1 HB2
  go_wp2_with fail
  obtain ⟨w2, hw2⟩ : ∃ w2, w2 = (((w1.setCell ⟨n0 + 1 + 1, 0, none⟩ (.int .i64 p.sys.states)).setCell ⟨n0 + 1 + 1, 1, none⟩ (.int .i64 p.sys.initial)).setCell ⟨n0 + 1 + 1, 2, none⟩ (.slice (some ⟨b1, 0, none⟩) p.sys.labels.length p.sys.labels.length)).setCell ⟨n0 + 1 + 1, 3, none⟩ (.slice (some ⟨b2, 0, none⟩) p.sys.edges.length p.sys.edges.length) := ⟨_, rfl⟩
  have S1 : ∀ (v : World) (j : Nat) (u : Value), Only (fun k => k = n0 + 1 ∨ k = n0 + 1 + 1) v (v.setCell ⟨n0 + 1 + 1, j, none⟩ u) := fun v j u => Only.grown (grown_setCell v ⟨n0 + 1 + 1, j, none⟩ u) (fun k e => .inr (Option.some.inj e).symm)
  have SS1 := Lib.hid S1
  have hO2 : Only (fun k => k = n0 + 1 ∨ k = n0 + 1 + 1) w1 w2 := by rw [hw2]; exact (((S1 _ _ _).trans (S1 _ _ _)).trans (S1 _ _ _)).trans (S1 _ _ _)
  have hlow : ∀ k, (k = n0 + 1 ∨ k = n0 + 1 + 1) → k < n0 + 1 + 1 + 1 := fun k e => by omega
  have HLOW := Lib.hid hlow
  have L2 := Lib.hid (L1.out.only hO2 hlow)
  have E2 := Lib.hid (E1.out.only hO2 hlow)
  have O2 := Lib.hid (HO1.out.trans hO2)
  have Y2 : Hid (Blk w2 (n0 + 1 + 1) [.int .i64 p.sys.states, .int .i64 p.sys.initial, (.slice (some ⟨b1, 0, none⟩) p.sys.labels.length p.sys.labels.length), (.slice (some ⟨b2, 0, none⟩) p.sys.edges.length p.sys.edges.length), .slice none 0 0, .slice none 0 0] 36) := by
    rw [hw2]; exact (((X2.out.set 0 _).set 1 _).set 2 _).set 3 _
  have Y1 : Hid (Blk w2 (n0 + 1) [.int .i64 0, .int .i64 0, .slice none 0 0, .slice none 0 0, .slice none 0 0, .slice none 0 0] 36) := by
    rw [hw2]; exact (((X1.out.setOther ⟨n0 + 1 + 1, 0, none⟩ _ (by simp)).setOther ⟨n0 + 1 + 1, 1, none⟩ _ (by simp)).setOther ⟨n0 + 1 + 1, 2, none⟩ _ (by simp)).setOther ⟨n0 + 1 + 1, 3, none⟩ _ (by simp)
  have Y0 := Lib.hid (X0.out.only (S := fun k => k = n0 + 1 ∨ k = n0 + 1 + 1) hO2 (by omega))
  have hup : ∀ {v : World}, Only (fun k => k = n0 + 1 ∨ k = n0 + 1 + 1) w v → Below w.heap.size w v := fun h => h.under (Nat.le_refl _) (fun k e => by have := HN0.out; omega)
  have HUP : Hid (∀ v : World, Only (fun k => k = n0 + 1 ∨ k = n0 + 1 + 1) w v → Below w.heap.size w v) := fun v h => hup h
  have HPM := Lib.hid (fun v (h : Below w.heap.size w v) => toInt64S_any _ lo p.marks v h3 (hp0.out.marks.below h))
  have HPN := Lib.hid (fun v (h : Below w.heap.size w v) => toStringS_any _ lo p.names v h4 (hp0.out.names.below h))
  have hz2 : n0 + 1 + 1 + 1 ≤ w2.heap.size := by have := Y2.out.lt; omega
  have HW2 := Lib.hid hw2
  clear hw2 S1 hO2 hlow hup f0 f1 f2 f3 y0 y1 y2 y3 x4 X0 X1 X2 L1 E1 HO1
  rw [← HW2.out]
  refine Calls.mono (HPM.out _ (HUP.out _ O2.out)) ?_
  rintro e w3 ⟨rfl, hb3, -, ho3⟩
  have M3 : Hid (SliceK 1 encI (n0 + 1 + 1 + 1) w3 (.slice (some ⟨w2.heap.size, 0, none⟩) p.marks.length p.marks.length) p.marks) := SliceK.mono (SliceK.of_owns (e := 2) encI_len rfl (by rw [flat_encI]; exact ho3)) hz2
  have L3 := Lib.hid (L2.out.below hb3)
  have E3 := Lib.hid (E2.out.below hb3)
  have O3 := Lib.hid (O2.out.trans (Only.below hb3))
  have Z2 := Lib.hid (Y2.out.below hb3)
  have Z1 := Lib.hid (Y1.out.below hb3)
  have Z0 := Lib.hid (Y0.out.below hb3)
  have f4 := Z2.out.frozen 4
  have y4 := Z2.out.cell 4 rfl
  have x5 := Z0.out.cell 5 rfl
  have hz3 : n0 + 1 + 1 + 1 ≤ w3.heap.size := by have := Z2.out.lt; omega
  obtain ⟨mb, hmb⟩ : ∃ mb, mb = w2.heap.size := ⟨_, rfl⟩
  rw [← hmb] at M3 ⊢
  clear hb3 ho3 L2 E2 O2 Y2 Y1 Y0 hz2 hmb
  go_wp2_with fail
  obtain ⟨w4, hw4⟩ : ∃ w4, w4 = w3.setCell ⟨n0 + 1 + 1, 4, none⟩ (.slice (some ⟨mb, 0, none⟩) p.marks.length p.marks.length) := ⟨_, rfl⟩
  have hO4 : Only (fun k => k = n0 + 1 ∨ k = n0 + 1 + 1) w3 w4 := by rw [hw4]; exact SS1.out _ _ _
  have L4 := Lib.hid (L3.out.only hO4 HLOW.out)
  have E4 := Lib.hid (E3.out.only hO4 HLOW.out)
  have M4 := Lib.hid (M3.out.only hO4 HLOW.out)
  have O4 := Lib.hid (O3.out.trans hO4)
  have A2 : Hid (Blk w4 (n0 + 1 + 1) [.int .i64 p.sys.states, .int .i64 p.sys.initial, (.slice (some ⟨b1, 0, none⟩) p.sys.labels.length p.sys.labels.length), (.slice (some ⟨b2, 0, none⟩) p.sys.edges.length p.sys.edges.length), .slice (some ⟨mb, 0, none⟩) p.marks.length p.marks.length, .slice none 0 0] 36) := by
    rw [hw4]; exact Z2.out.set 4 _
  have A1 : Hid (Blk w4 (n0 + 1) [.int .i64 0, .int .i64 0, .slice none 0 0, .slice none 0 0, .slice none 0 0, .slice none 0 0] 36) := by rw [hw4]; exact Z1.out.setOther ⟨n0 + 1 + 1, 4, none⟩ _ (by simp)
  have HW4 := Lib.hid hw4
  have hz4 : n0 + 1 + 1 + 1 ≤ w4.heap.size := by have := A2.out.lt; omega
  clear hw4 hO4 f4 y4 x5 L3 E3 M3 O3 Z2 Z1 Z0
  rw [← HW4.out]
  refine Calls.mono (HPN.out _ (HUP.out _ O4.out)) ?_
  rintro e w5 ⟨rfl, hb5, -, ho5⟩
  have N5 : Hid (SliceK 1 encS (n0 + 1 + 1 + 1) w5 (.slice (some ⟨w4.heap.size, 0, none⟩) p.names.length p.names.length) p.names) := SliceK.mono (SliceK.of_owns (e := 9) encS_len rfl (by rw [flat_encS]; exact ho5)) hz4
  have L5 := Lib.hid (L4.out.below hb5)
  have E5 := Lib.hid (E4.out.below hb5)
  have M5 := Lib.hid (M4.out.below hb5)
  have O5 := Lib.hid (O4.out.trans (Only.below hb5))
  have C2 := Lib.hid (A2.out.below hb5)
  have C1 := Lib.hid (A1.out.below hb5)
  obtain ⟨nb, hnb⟩ : ∃ nb, nb = w4.heap.size := ⟨_, rfl⟩
  rw [← hnb] at N5 ⊢
  have c0 := C2.out.cell 0 rfl
  have c1 := C2.out.cell 1 rfl
  have c2 := C2.out.cell 2 rfl
  have c3 := C2.out.cell 3 rfl
  have c4 := C2.out.cell 4 rfl
  have c5 := C2.out.cell 5 rfl
  have f5 := C2.out.frozen 5
  have d0 := C1.out.cell 0 rfl
  have d1 := C1.out.cell 1 rfl
  have d2 := C1.out.cell 2 rfl
  have d3 := C1.out.cell 3 rfl
  have d4 := C1.out.cell 4 rfl
  have d5 := C1.out.cell 5 rfl
  have g0 := C1.out.frozen 0
  have g1 := C1.out.frozen 1
  have g2 := C1.out.frozen 2
  have g3 := C1.out.frozen 3
  have g4 := C1.out.frozen 4
  have g5 := C1.out.frozen 5
  clear hb5 ho5 L4 E4 M4 O4 A2 A1 hz4 hnb
  have HFIN : Hid (∀ u5 a0 a1 a2 a3 a4 a5, Only (fun k => k = n0 + 1 ∨ k = n0 + 1 + 1) w5 (((((((w5.setCell ⟨n0 + 1 + 1, 5, none⟩ u5).setCell ⟨n0 + 1, 0, none⟩ a0).setCell ⟨n0 + 1, 1, none⟩ a1).setCell ⟨n0 + 1, 2, none⟩ a2).setCell ⟨n0 + 1, 3, none⟩ a3).setCell ⟨n0 + 1, 4, none⟩ a4).setCell ⟨n0 + 1, 5, none⟩ a5)) := fun u5 a0 a1 a2 a3 a4 a5 => by
    have S2 : ∀ (v : World) (j : Nat) (u : Value), Only (fun k => k = n0 + 1 ∨ k = n0 + 1 + 1) v (v.setCell ⟨n0 + 1, j, none⟩ u) := fun v j u => Only.grown (grown_setCell v ⟨n0 + 1, j, none⟩ u) (fun k e => .inl (Option.some.inj e).symm)
    exact ((((((SS1.out _ _ _).trans (S2 _ _ _)).trans (S2 _ _ _)).trans (S2 _ _ _)).trans (S2 _ _ _)).trans (S2 _ _ _)).trans (S2 _ _ _)
  go_wp2_with fail
  refine bodyPost_ret (v := .agg #[.int .i64 p.sys.states, .int .i64 p.sys.initial, (.slice (some ⟨b1, 0, none⟩) p.sys.labels.length p.sys.labels.length), (.slice (some ⟨b2, 0, none⟩) p.sys.edges.length p.sys.edges.length), .slice (some ⟨mb, 0, none⟩) p.marks.length p.marks.length, .slice (some ⟨nb, 0, none⟩) p.names.length p.names.length])
    (by simp [results, Tryz.results7, go_sem, d0, d1, d2, d3, d4, d5]) rfl ⟨_, _, _, _, rfl, ?_, ?_⟩
  · exact HUP.out _ (O5.out.trans (HFIN.out _ _ _ _ _ _ _))
  · exact ⟨(L5.out.only (HFIN.out _ _ _ _ _ _ _) HLOW.out).mono (Nat.zero_le _), (E5.out.only (HFIN.out _ _ _ _ _ _ _) HLOW.out).mono (Nat.zero_le _), (M5.out.only (HFIN.out _ _ _ _ _ _ _) HLOW.out).mono (Nat.zero_le _), (N5.out.only (HFIN.out _ _ _ _ _ _ _) HLOW.out).mono (Nat.zero_le _)⟩

set_option maxHeartbeats 1000000 in
theorem eqPlant_same (lo lo' : Nat) (p : Plant) (lv ev mv nv lv2 ev2 mv2 nv2 : Value) (w : World) (hp : PlantIn lo w lv ev mv nv p) (hq : PlantIn lo' w lv2 ev2 mv2 nv2 p) :
    Calls Tryz.prog 10 #[.agg #[.int .i64 p.sys.states, .int .i64 p.sys.initial, lv, ev, mv, nv], .agg #[.int .i64 p.sys.states, .int .i64 p.sys.initial, lv2, ev2, mv2, nv2]] w fun e w' => e = .returned (.bool true) ∧ Below w.heap.size w w' := by
  obtain ⟨n0, hn0⟩ : ∃ n0, n0 = w.heap.size := ⟨_, rfl⟩
  obtain ⟨W, hW⟩ : ∃ W, W = (w.alloc (.cells #[.int .i64 p.sys.states, .int .i64 p.sys.initial, lv, ev, mv, nv] 36)).alloc (.cells #[.int .i64 p.sys.states, .int .i64 p.sys.initial, lv2, ev2, mv2, nv2] 36) := ⟨_, rfl⟩
  have hbW : Below w.heap.size w W := by rw [hW]; exact ((Below.refl _ _).alloc (Nat.le_refl _) _).alloc (by simp) _
  have B0 : Blk W n0 [.int .i64 p.sys.states, .int .i64 p.sys.initial, lv, ev, mv, nv] 36 := by
    rw [hW, hn0]; exact (Blk.new w [.int .i64 p.sys.states, .int .i64 p.sys.initial, lv, ev, mv, nv] _).alloc _
  have B1 : Blk W (n0 + 1) [.int .i64 p.sys.states, .int .i64 p.sys.initial, lv2, ev2, mv2, nv2] 36 := by
    rw [hW, hn0]
    have := Blk.new (w.alloc (.cells #[.int .i64 p.sys.states, .int .i64 p.sys.initial, lv, ev, mv, nv] 36)) [.int .i64 p.sys.states, .int .i64 p.sys.initial, lv2, ev2, mv2, nv2] 36
    rw [World.size_alloc] at this
    exact this
  have HP := Lib.hid (hp.below hbW)
  have HQ := Lib.hid (hq.below hbW)
  have HBW := Lib.hid hbW
  have HB0 := Lib.hid B0
  have HB1 := Lib.hid B1
  have HW := Lib.hid hW
  have HN0 := Lib.hid hn0
  have HC1 := Lib.hid (eqLts_same (.agg #[.int .i64 p.sys.states, .int .i64 p.sys.initial, lv, ev]) (.agg #[.int .i64 p.sys.states, .int .i64 p.sys.initial, lv2, ev2]) lo lo' p.sys W ⟨lv, ev, rfl, HP.out.labels, HP.out.edges⟩ ⟨lv2, ev2, rfl, HQ.out.labels, HQ.out.edges⟩)
  obtain ⟨⟨al, cl, rfl, -⟩, ⟨ae, ce, rfl, -⟩, ⟨am, cm, rfl, -⟩, ⟨an, cn, rfl, -⟩⟩ := hp
  obtain ⟨⟨al2, cl2, rfl, -⟩, ⟨ae2, ce2, rfl, -⟩, ⟨am2, cm2, rfl, -⟩, ⟨an2, cn2, rfl, -⟩⟩ := hq
  clear hbW B0 B1 hW hn0
  go_enter Tryz.func10, Tryz.ntmps10
  go_wp2_with fail
  rw [← HW.out, ← HN0.out]
  refine Calls.mono HC1.out ?_
  rintro e w1 ⟨rfl, hb1⟩
  have HBB1 := Lib.hid hb1
  have x4 := (HB0.out.below hb1).cell 4 rfl
  have y4 := (HB1.out.below hb1).cell 4 rfl
  clear hb1
  go_wp2_with fail
  refine (eqInt64S_same _ _ lo lo' p.marks _ (HP.out.marks.below HBB1.out) (HQ.out.marks.below HBB1.out)).mono ?_
  rintro e w2 ⟨rfl, hb2⟩
  have HBB2 := Lib.hid (HBB1.out.trans (hb2.mono HBB1.out.size))
  have x5 := (HB0.out.below HBB2.out).cell 5 rfl
  have y5 := (HB1.out.below HBB2.out).cell 5 rfl
  clear hb2 x4 y4
  go_wp2_with fail
  refine (eqStringS_same _ _ lo lo' p.names _ (HP.out.names.below HBB2.out) (HQ.out.names.below HBB2.out)).mono ?_
  rintro e w3 ⟨rfl, hb3⟩
  have HBB3 := Lib.hid (HBB2.out.trans (hb3.mono HBB2.out.size))
  clear hb3 x5 y5
  go_wp2_with fail
  go_ret
  exact ⟨rfl, HBW.out.trans (HBB3.out.mono HBW.out.size)⟩

end Go.Proofs.YtkffdamgekoifaaGreatDoor
