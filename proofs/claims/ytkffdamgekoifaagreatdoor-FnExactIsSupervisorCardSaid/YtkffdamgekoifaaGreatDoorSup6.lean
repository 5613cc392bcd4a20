/-
  What the implementation's IsSupervisor computes.
-/
import Derived.Test.YtkffdamgekoifaaGreatDoorSup5
import Derived.Test.YtkffdamgekoifaaGreatDoorQue
import Derived.Carry
namespace Go.Proofs.YtkffdamgekoifaaGreatDoor
open Go Go.RowKit

theorem sup_start (W : World) :
    SupAt W.heap.size (W.heap.size + 1) W.heap.size ⟨[], []⟩ (.slice none 0 0) (.slice none 0 0) [] ((W.alloc (.map #[] 0)).alloc (.cells #[.slice none 0 0, .map (some W.heap.size), .slice none 0 0] 58)) := by
  have hm := NumMap.made .i64 W
  obtain ⟨W1, hW1⟩ : ∃ W1, W1 = W.alloc (.map #[] 0) := ⟨_, rfl⟩
  have hs : W1.heap.size = W.heap.size + 1 := by rw [hW1]; simp
  rw [← hW1] at hm ⊢
  have hb := box_below W1 #[.slice none 0 0, .map (some W.heap.size), .slice none 0 0] 58
  refine ⟨by omega, Nat.le_refl _, ?_, World.ownsRow_nil _ _ _ _, hm.below hb, OwnRows.nil _ _ _ _⟩
  rw [← hs]
  exact Blk.new W1 _ _

/-- Two systems side by side. -/
theorem two_row {lo : Nat} {w : World} {r s : Lts} {lr er ls es : Value} (hr : LtsIn lo w lr er r) (hs : LtsIn lo w ls es s) (h1 : Short20 r.labels) (h2 : Short20 s.labels) :
    LtsRow lo (w.alloc (.cells #[.int .i64 r.states, .int .i64 r.initial, lr, er, .int .i64 s.states, .int .i64 s.initial, ls, es] 34)) w.heap.size [r, s] (fun i => if i = 0 then lr else ls) (fun i => if i = 0 then er else es) := by
  have hb := box_below w #[.int .i64 r.states, .int .i64 r.initial, lr, er, .int .i64 s.states, .int .i64 s.initial, ls, es] 34
  have hx := Blk.new w [.int .i64 r.states, .int .i64 r.initial, lr, er, .int .i64 s.states, .int .i64 s.initial, ls, es] 34
  have each : ∀ {q : Nat → Prop}, q 0 → q 1 → ∀ i, i < [r, s].length → q i := fun h0 h1 i hi => by
    match i, hi with
    | 0, _ => exact h0
    | 1, _ => exact h1
  refine ⟨hx.lt, ?_, ?_, ?_, ?_, ?_, ?_⟩
  · intro i hi
    match i, hi with
    | 0, _ => exact hx.cell 0 rfl
    | 1, _ => exact hx.cell 4 rfl
  · intro i hi
    match i, hi with
    | 0, _ => exact hx.cell 1 rfl
    | 1, _ => exact hx.cell 5 rfl
  · intro i hi
    match i, hi with
    | 0, _ => exact hx.cell 2 rfl
    | 1, _ => exact hx.cell 6 rfl
  · intro i hi
    match i, hi with
    | 0, _ => exact hx.cell 3 rfl
    | 1, _ => exact hx.cell 7 rfl
  · intro i hi
    match i, hi with
    | 0, _ => exact hr.below hb
    | 1, _ => exact hs.below hb
  · intro i hi
    match i, hi with
    | 0, _ => exact h1
    | 1, _ => exact h2

theorem two_free {r s : Lts} : (∀ i (h : i < [r, s].length), Free [r, s][i]) ↔ Free r ∧ Free s :=
  ⟨fun h => ⟨h 0 (by simp), h 1 (by simp)⟩, fun h i hi => by
    match i, hi with
    | 0, _ => exact h.1
    | 1, _ => exact h.2⟩

/-- The true places of a list, up to the k-th. -/
def todoTo (l : List Bool) (k : Nat) : List Nat := (List.range k).filter fun i => l.getD i false
theorem todoTo_succ (l : List Bool) (k : Nat) : todoTo l (k + 1) = todoTo l k ++ if l.getD k false then [k] else [] := by
  unfold todoTo
  rw [List.range_succ, List.filter_append]
  cases h : l.getD k false
  · have : [k].filter (fun i => l.getD i false) = [] := by rw [List.filter_cons, h]; rfl
    rw [this]; rfl
  · have : [k].filter (fun i => l.getD i false) = [k] := by rw [List.filter_cons, h]; rfl
    rw [this]; rfl
theorem todoTo_len (l : List Bool) (k : Nat) : (todoTo l k).length ≤ k := by
  unfold todoTo
  exact Nat.le_trans (List.length_filter_le _ _) (by simp)
def goodTo (l : List Bool) (k : Nat) : List Bool := l.take k ++ List.replicate (l.length - k) false
theorem goodTo_len (l : List Bool) {k : Nat} (h : k ≤ l.length) : (goodTo l k).length = l.length := by simp [goodTo]; omega
theorem goodTo_zero (l : List Bool) : goodTo l 0 = List.replicate l.length false := by simp [goodTo]
theorem goodTo_all (l : List Bool) : goodTo l l.length = l := by simp [goodTo]
theorem goodTo_set (l : List Bool) {k : Nat} (h : k < l.length) : (goodTo l k).set k l[k] = goodTo l (k + 1) := by
  unfold goodTo
  rw [show l.length - k = (l.length - (k + 1)) + 1 from by omega, List.replicate_succ, List.set_append_right _ _ (by simp; omega)]
  have : k - (l.take k).length = 0 := by simp; omega
  rw [this, List.set_cons_zero, List.take_succ_eq_append_getElem h, List.append_assoc]
  rfl
theorem goodTo_skip (l : List Bool) {k : Nat} (h : k < l.length) (hf : l[k] = false) : goodTo l (k + 1) = goodTo l k := by
  rw [← goodTo_set l h, hf]
  have h2 : (goodTo l k)[k]? = some false := by
    unfold goodTo
    rw [List.getElem?_append_right (by simp; omega), List.getElem?_replicate, if_pos (by simp; omega)]
  apply List.ext_getElem?
  intro i
  rw [List.getElem?_set]
  split
  · next e =>
    subst e
    rw [h2, if_pos (List.getElem?_eq_some_iff.1 h2).1]
  · rfl
theorem goodTo_get (l : List Bool) {k : Nat} (h : k < l.length) : (goodTo l k).getD k false = false := by
  unfold goodTo
  rw [List.getD_eq_getElem?_getD, List.getElem?_append_right (by simp; omega), List.getElem?_replicate]
  split <;> rfl
def num (n : Nat) : Value := .int .i64 (n : Int)
theorem tail_slice {w : World} {base : Nat} {e : TypeId} {v : Value} {xs : List Value} (h : TailRow w base e v xs) : ∃ a c, v = .slice a xs.length c := by
  rcases h with ⟨rfl, rfl⟩ | ⟨g, o, cap, cur, rfl, -⟩
  · exact ⟨none, 0, rfl⟩
  · exact ⟨_, _, rfl⟩
theorem tail_type_ne {w : World} {base e n : Nat} {v : Value} {xs : List Value} (h : TailRow w base e v xs) {b : Nat} {c : Nat} {t : TypeId} {b2 : Nat} {ys : List Value} (ho : w.ownsRow b2 t 1 (.slice (some ⟨b, 0, none⟩) n c) n ys) (he : e ≠ t) : v.ownBlock = none ∨ v.ownBlock ≠ some b := by
  rcases h with ⟨rfl, rfl⟩ | ⟨g, o, cap, cur, rfl, -, hg, -⟩
  · exact .inl rfl
  · refine .inr fun e1 => ?_
    simp only [Value.ownBlock, Option.some.injEq] at e1
    subst e1
    rcases ho.2 with ⟨h, -⟩ | ⟨g2, c2, u2, h, -, hg2, -⟩
    · cases h
    · simp only [Value.slice.injEq, Option.some.injEq, Addr.mk.injEq, and_true] at h
      obtain ⟨rfl, -⟩ := h
      rw [hg] at hg2
      simp only [Option.some.injEq, Obj.cells.injEq] at hg2
      exact he hg2.2.1

theorem tail_len {w : World} {base : Nat} {e : TypeId} {v : Value} {xs : List Nat} (h : TailRow w base e v (xs.map num)) : ∃ a c, v = .slice a xs.length c := by
  have := tail_slice h
  simpa using this
/-- All marked rows wait. -/
theorem queue_start (p : Plant) (st : Net) : Queue st.edges (markOf p st.rows) (marksOf p st.rows) (todoTo (marksOf p st.rows) st.rows.length) st.rows.length (backOf st.edges st.rows.length).length where
  ok := marksOf_ok p st
  known b hb := by
    unfold todoTo at hb
    obtain ⟨h1, h2⟩ := List.mem_filter.1 hb
    exact getD_some (by rw [marksOf_len]; exact List.mem_range.1 h1) h2
  back a b he hb hn _ := by
    refine absurd ?_ hn
    unfold todoTo
    obtain ⟨h1, h2⟩ := List.getElem?_eq_some_iff.1 hb
    refine List.mem_filter.2 ⟨List.mem_range.2 (by rw [← marksOf_len p st.rows]; exact h1), ?_⟩
    rw [List.getD_eq_getElem?_getD, hb]
    rfl

set_option maxRecDepth 100000 in
set_option maxHeartbeats 8000000 in
theorem implIsSupervisor_any (lo : Nat) (p : Plant) (r s : Lts) (lvp evp mvp nvp lr er ls es : Value) (w : World) (h1 : Short20 p.sys.labels) (h2 : Short20 r.labels) (h3 : Short20 s.labels) (h4 : Short20 p.names)
    (hp : PlantIn lo w lvp evp mvp nvp p) (hr : LtsIn lo w lr er r) (hs : LtsIn lo w ls es s) (g : Glob w) :
    Calls Tryz.prog 9 #[.agg #[.int .i64 p.sys.states, .int .i64 p.sys.initial, lvp, evp, mvp, nvp], .agg #[.int .i64 r.states, .int .i64 r.initial, lr, er], .agg #[.int .i64 s.states, .int .i64 s.initial, ls, es]] w (Decides (Supervises p r s) w) := by
  obtain ⟨W, hW⟩ : ∃ W, W = ((w.alloc (.cells #[.int .i64 p.sys.states, .int .i64 p.sys.initial, lvp, evp, mvp, nvp] 36)).alloc (.cells #[.int .i64 r.states, .int .i64 r.initial, lr, er] 34)).alloc (.cells #[.int .i64 s.states, .int .i64 s.initial, ls, es] 34) := ⟨_, rfl⟩
  have hbW : Below w.heap.size w W := by rw [hW]; exact (((Below.refl _ _).alloc (Nat.le_refl _) _).alloc (by simp) _).alloc (by simp; omega) _
  obtain ⟨b1, hb1⟩ : ∃ b1, b1 = w.heap.size := ⟨_, rfl⟩
  have hbox : Box3 b1 [.int .i64 p.sys.states, .int .i64 p.sys.initial, lvp, evp, mvp, nvp] [.int .i64 r.states, .int .i64 r.initial, lr, er] [.int .i64 s.states, .int .i64 s.initial, ls, es] W := by
    rw [hW, hb1]
    refine ⟨((Blk.new w _ _).alloc _).alloc _, ?_, ?_⟩
    · have := Blk.new (w.alloc (.cells #[.int .i64 p.sys.states, .int .i64 p.sys.initial, lvp, evp, mvp, nvp] 36)) [.int .i64 r.states, .int .i64 r.initial, lr, er] 34
      rw [World.size_alloc] at this
      exact this.alloc _
    · have := Blk.new ((w.alloc (.cells #[.int .i64 p.sys.states, .int .i64 p.sys.initial, lvp, evp, mvp, nvp] 36)).alloc (.cells #[.int .i64 r.states, .int .i64 r.initial, lr, er] 34)) [.int .i64 s.states, .int .i64 s.initial, ls, es] 34
      rw [World.size_alloc, World.size_alloc] at this
      exact this
  obtain ⟨mb, hmb⟩ : ∃ mb, mb = w.heap.size + 1 + 1 + 1 := ⟨_, rfl⟩
  have hWs : W.heap.size = mb := by rw [hW, hmb]; simp
  obtain ⟨X, hX⟩ : ∃ X, X = (W.alloc (.map #[] 0)).alloc (.cells #[.slice none 0 0, .map (some mb), .slice none 0 0] 58) := ⟨_, rfl⟩
  have hbX : Below W.heap.size W X := by rw [hX]; exact ((Below.refl _ _).alloc (Nat.le_refl _) _).alloc (by simp) _
  have hsup := sup_start W
  rw [hWs, ← hX] at hsup
  obtain ⟨Y, hY⟩ : ∃ Y, Y = X.alloc (.cells #[.int .i64 r.states, .int .i64 r.initial, lr, er, .int .i64 s.states, .int .i64 s.initial, ls, es] 34) := ⟨_, rfl⟩
  have hbY : Below X.heap.size X Y := by rw [hY]; exact box_below _ _ _
  have hbWY : Below W.heap.size W Y := hbX.trans (hbY.mono hbX.size)
  have hbwX : Below w.heap.size w X := hbW.trans (hbX.mono hbW.size)
  have HROW := Lib.hid (two_row (hr.below hbwX) (hs.below hbwX) h2 h3)
  rw [← hY] at HROW
  have HSUP := Lib.hid (hsup.below hbY)
  have HB0 := Lib.hid hbW
  have HBY := Lib.hid hbWY
  have HBOX := Lib.hid (hbox.below hbWY)
  have HBOXW := Lib.hid hbox
  have HPW := Lib.hid (hp.below hbW)
  have HRW := Lib.hid (hr.below hbW)
  have HSW := Lib.hid (hs.below hbW)
  have GW := Lib.hid (g.below hbW)
  have H1 := Lib.hid h1
  have H4 := Lib.hid h4
  have HW := Lib.hid hW
  have HX := Lib.hid hX
  have HY := Lib.hid hY
  have HZ1 := Lib.hid hb1
  have hxs : X.heap.size = mb + 1 + 1 := by rw [hX]; simp [hWs]
  rw [hxs] at HROW
  have HMB := Lib.hid hmb
  have HWS := Lib.hid hWs
  have p0 := hbox.one.cell 0 rfl
  have p1 := hbox.one.cell 1 rfl
  have p2 := hbox.one.cell 2 rfl
  have p3 := hbox.one.cell 3 rfl
  have p4 := hbox.one.cell 4 rfl
  have p5 := hbox.one.cell 5 rfl
  have r0 := hbox.two.cell 0 rfl
  have r1 := hbox.two.cell 1 rfl
  have r2 := hbox.two.cell 2 rfl
  have r3 := hbox.two.cell 3 rfl
  have s0 := hbox.three.cell 0 rfl
  have s1 := hbox.three.cell 1 rfl
  have s2 := hbox.three.cell 2 rfl
  have s3 := hbox.three.cell 3 rfl
  have hl1 := hbox.one.lt
  have hl2 := hbox.two.lt
  have hl3 := hbox.three.lt
  have hmm := @run_makeMap Tryz.prog
  clear hbW hbox hbX hsup hbY hbWY hbwX hp hr hs g h1 h2 h3 h4 hW hX hY hmb hWs hxs hb1
  by_cases hok : PlantOk p ∧ Free r ∧ Free s
  · have HOK := Lib.hid hok
    have HC := Lib.hid (plantCode_good lo _ 2 2 p [r, s] lvp evp mvp nvp _ _ Y H1.out H4.out (HPW.out.below HBY.out) rfl (by decide) HROW.out (GW.out.below HBY.out) hok.1 (two_free.2 hok.2))
    clear hok
    have HRCH := Lib.hid (fun w1 (hb1 : Below Y.heap.size Y w1) => reach_any lo (mb + 1) mb p r s lvp evp mvp nvp lr er ls es (.slice none 0 0) (.slice none 0 0) [] W w1 (HBY.out.trans (hb1.mono HBY.out.size)) (by rw [HWS.out]; exact HSUP.out.below hb1) HPW.out HRW.out HSW.out HOK.out.1.free HOK.out.2.1 HOK.out.2.2 H1.out GW.out)
    rw [HWS.out] at HRCH
    go_enter Tryz.func9, Tryz.ntmps9
    go_wp2_with fail
    rw [← HW.out, ← HMB.out, ← HX.out, ← HY.out]
    refine Calls.mono HC.out ?_
    rintro e w1 ⟨rfl, hb1⟩
    have hx1 := HBOX.out.below hb1
    replace p0 := hx1.one.cell 0 rfl
    replace p1 := hx1.one.cell 1 rfl
    replace p2 := hx1.one.cell 2 rfl
    replace p3 := hx1.one.cell 3 rfl
    replace p4 := hx1.one.cell 4 rfl
    replace p5 := hx1.one.cell 5 rfl
    replace r0 := hx1.two.cell 0 rfl
    replace r1 := hx1.two.cell 1 rfl
    replace r2 := hx1.two.cell 2 rfl
    replace r3 := hx1.two.cell 3 rfl
    replace s0 := hx1.three.cell 0 rfl
    replace s1 := hx1.three.cell 1 rfl
    replace s2 := hx1.three.cell 2 rfl
    replace s3 := hx1.three.cell 3 rfl
    rw [← HZ1.out]
    have HB1 := Lib.hid hb1
    clear hb1 hx1 hl1 hl2 hl3
    go_wp2_with fail
    refine Calls.mono (HRCH.out _ HB1.out) ?_
    rintro e w2 ⟨hb2, hcase⟩
    have HB2 := Lib.hid hb2
    clear hb2 p0 p1 p2 p3 p4 p5 r0 r1 r2 r3 s0 s1 s2 s3 HC HRCH
    rcases hcase with ⟨rfl, n, hfail⟩ | ⟨rfl, st, lv, bv, vs, hfound, hnok, hew, hsup⟩
    · have HFAIL := Lib.hid hfail
      clear hfail
      go_wp2_with fail
      go_ret
      exact ⟨false, rfl, ⟨(fun h => by cases h), fun h => absurd h.2.2.2 (Controls.not_fail HFAIL.out)⟩, HB0.out.trans ((show Below W.heap.size W w2 by rw [HWS.out]; exact HB2.out).mono HB0.out.size)⟩
    · have HFND := Lib.hid hfound
      have HNOK := Lib.hid hnok
      have hbW2 : Below W.heap.size W w2 := by rw [HWS.out]; exact HB2.out
      have HBW2 := Lib.hid (HB0.out.trans (hbW2.mono HB0.out.size))
      have HPI := Lib.hid (HPW.out.below hbW2)
      have HBX2 := Lib.hid (HBOXW.out.below hbW2)
      have HSU := Lib.hid hsup
      have hfew := hnok.few HOK.out.1.free.valid HOK.out.2.2.valid HOK.out.2.1.valid
      obtain ⟨al, cl, rfl, -, -⟩ := owns_slice hsup.list
      have x0 := hsup.box.cell 0 rfl
      obtain ⟨N, hN⟩ : ∃ N, N = st.rows.length := ⟨_, rfl⟩
      rw [← hN] at x0 hfew
      have HNN := Lib.hid hN
      have hMl : (marksOf p st.rows).length = N := by rw [marksOf_len, hN]
      obtain ⟨MK, hMK⟩ : ∃ MK, MK = marksOf p st.rows := ⟨_, rfl⟩
      rw [← hMK] at hMl
      have HMK := Lib.hid hMK
      have hxl := hsup.box.lt
      obtain ⟨ib, hib, hzb0, hzb1, hzb2⟩ := info_parts info_bool
      clear hfound hnok hbW2 hsup hN hMK
      go_wp2_with (at_make; refine wpList_make_full _ rfl _ _ 60 rfl w2.heap.size 4 ib _ 1 Tryz.underlying60 hib hzb0 hzb1 .i64 .i64 _ _ N rfl rfl rfl rfl ?_ ?_ ?_ ?_)
      · rw [hzb2]; omega
      · simp [maxLen]; omega
      · exact Nat.le_refl _
      intro wK ho hg
      rw [toList_madeCells_one] at ho
      have hbK : Below w2.heap.size w2 wK := (Below.refl _ w2).grown hg (Nat.le_refl _) (fun _ h => by cases h)
      have HBK := Lib.hid hbK
      obtain ⟨GB, hGB⟩ : ∃ GB, GB = w2.heap.size := ⟨_, rfl⟩
      rw [← hGB] at ho ⊢
      have HO : Hid (wK.ownsRow GB 4 1 (.slice (some ⟨GB, 0, none⟩) N N) N ((goodTo MK 0).map Value.bool)) := by
        unfold Hid; rw [goodTo_zero, hMl, List.map_replicate]; exact ho
      have HGB := Lib.hid hGB
      have hGl : GB < wK.heap.size := (ho.lt _ rfl).2
      replace x0 := keeps hbK hxl x0
      have hxlK : mb + 1 < wK.heap.size := Nat.lt_of_lt_of_le hxl hbK.size
      clear ho hg hbK hGB hib hzb0 hzb1 hzb2
      go_wp2_with fail
      clear x0
      go_loopw [9, 43] (fun vt i wr => ∃ k : Nat, k ≤ N ∧ i = .int .i64 k ∧ Below w2.heap.size w2 wr ∧ wr.ownsRow GB 4 1 (.slice (some ⟨GB, 0, none⟩) N N) N ((goodTo MK k).map Value.bool)
        ∧ wr.ownsRow w2.heap.size 3 1 vt (todoTo MK k).length ((todoTo MK k).map num)) (fun _ i _ => N - (intOf i).toNat)
      case atStart => exact ⟨0, Nat.zero_le _, rfl, HBK.out, HO.out, World.ownsRow_nil _ _ _ _⟩
      case round =>
        clear HO HBK hGl hxlK
        obtain ⟨k, hk, rfl, hb3, ho3, ht3⟩ := hrel
        have HB3 := Lib.hid hb3
        have HO3 := Lib.hid ho3
        have HT3 := Lib.hid ht3
        have hs3 := hb3.size
        by_cases hkt : k < N
        · have hkr : k < st.rows.length := by rw [← HNN.out]; exact hkt
          have hls := owns_below HSU.out.list hb3
          rw [← HNN.out] at hls
          obtain ⟨lb, rfl, hlb, k1, k2, k3⟩ := own_tri (by rw [HNN.out] at hls; exact hls) hkr
          obtain ⟨q, hq⟩ : ∃ q, q = st.rows[k] := ⟨_, rfl⟩
          rw [← hq] at k1 k2 k3
          have HQ := Lib.hid hq
          have hml : k < MK.length := by omega
          obtain ⟨wA, hwA⟩ : ∃ wA, wA = wr.alloc (.cells #[.int .i64 q.x, .int .i64 q.y, .int .i64 q.z] 62) := ⟨_, rfl⟩
          have hbA : Below wr.heap.size wr wA := by rw [hwA]; exact box_below _ _ _
          have HBA := Lib.hid (HB3.out.trans (hbA.mono hs3))
          have HOA := Lib.hid (owns_below HO3.out hbA)
          have HTA := Lib.hid (owns_below HT3.out hbA)
          have HWA := Lib.hid hwA
          have HCM := Lib.hid (marked_any lo p q.x lvp evp mvp nvp wA (HPI.out.below (hb3.trans (hbA.mono hs3))))
          obtain ⟨mbv, hmbv⟩ : ∃ mbv, mbv = p.marks.contains q.x := ⟨_, rfl⟩
          rw [← hmbv] at HCM
          have hmk : MK[k] = mbv := by
            have h1 := HMK.out
            subst h1
            rw [hmbv, hq]
            exact marksOf_get hkr _
          have hmkd : MK.getD k false = mbv := by rw [List.getD_eq_getElem?_getD, List.getElem?_eq_getElem hml, hmk]; rfl
          have p0 := (HBX2.out.below hb3).one.cell 0 rfl
          have p1 := (HBX2.out.below hb3).one.cell 1 rfl
          have p2 := (HBX2.out.below hb3).one.cell 2 rfl
          have p3 := (HBX2.out.below hb3).one.cell 3 rfl
          have p4 := (HBX2.out.below hb3).one.cell 4 rfl
          have p5 := (HBX2.out.below hb3).one.cell 5 rfl
          have hb1l := (HBX2.out.below hb3).one.lt
          have HTS := Lib.hid (todoTo_succ MK k)
          have htl := todoTo_len MK k
          cases mbv
          · have HGS := Lib.hid (goodTo_skip MK hml hmk)
            rw [hmkd] at HTS
            clear hb3 ho3 ht3 hls hq hwA hbA hmbv hmk hmkd
            go_wp2_with fail
            rw [← HWA.out]
            refine Calls.mono HCM.out ?_
            rintro e wB ⟨rfl, hbB⟩
            have HBB := Lib.hid (HBA.out.trans (hbB.mono HBA.out.size))
            have HOB := Lib.hid (owns_below HOA.out hbB)
            have HTB := Lib.hid (owns_below HTA.out hbB)
            clear hbB p0 p1 p2 p3 p4 p5 k1 k2 k3
            go_wp2_with fail
            go_roundw
            case rel => exact ⟨k + 1, by omega, by go_num, HBB.out, by rw [HGS.out]; exact HOB.out, by rw [HTS.out]; simpa using HTB.out⟩
            case measure => simp [intOf]; omega
          · have HGS : Hid ((goodTo MK k).set k true = goodTo MK (k + 1)) := by
              have := goodTo_set MK hml
              rw [hmk] at this
              exact this
            rw [hmkd] at HTS
            clear hb3 ho3 ht3 hls hq hwA hbA hmbv hmk hmkd
            go_wp2_with fail
            rw [← HWA.out]
            refine Calls.mono HCM.out ?_
            rintro e wB ⟨rfl, hbB⟩
            have HBB := Lib.hid (HBA.out.trans (hbB.mono HBA.out.size))
            have HOB := Lib.hid (owns_below HOA.out hbB)
            have HTB := Lib.hid (owns_below HTA.out hbB)
            clear hbB p0 p1 p2 p3 p4 p5 k1 k2 k3
            have c2 := cell_bool HOB.out hkt
            have f2 := HOB.out.frozenAt k
            have ho5 := (HOB.out.stored k (.bool true)).1
            have hs5 := grown_setCell wB ⟨GB, k, none⟩ (.bool true)
            obtain ⟨a9, c9, rfl, -, -⟩ := owns_slice HTB.out
            have HT5 := Lib.hid (HTB.out.kept hs5 (own_types HTB.out HOB.out (by decide)))
            rw [← List.map_set, HGS.out] at ho5
            have HO5 := Lib.hid ho5
            have hszB : w2.heap.size ≤ wB.heap.size := HBB.out.size
            have HB5 : Hid (Below w2.heap.size w2 (wB.setCell ⟨GB, k, none⟩ (.bool true))) := HBB.out.setCell (by rw [HGB.out]; exact Nat.le_refl _) _
            obtain ⟨wC, hwC⟩ : ∃ wC, wC = wB.setCell ⟨GB, k, none⟩ (.bool true) := ⟨_, rfl⟩
            rw [← hwC] at HO5 HT5 HB5
            have HWC := Lib.hid hwC
            have hszC : wC.heap.size = wB.heap.size := by rw [hwC]; simp
            obtain ⟨it, hit, hitz, hit1, hit2⟩ := info_parts info_int
            clear ho5 hs5 hwC
            go_wp2_with (at_builtin; rw [← HWC.out]; refine wpList_append_own _ rfl _ _ 61 rfl w2.heap.size 3 it (.int .i64 0) 1 8 Tryz.underlying61 hit hitz hit1 hit2 rfl (by decide) _ _ _ rfl (HT5.out.alloc _) ⟨wB.heap.size, 0, none⟩ 1 1 [.int .i64 k] rfl rfl ?c1 ?c2 ?c3 ?c4 ?c5 ?_)
            try (case c1 => have h9 := cell_one_new wC (.int .i64 k) 3; rw [hszC] at h9; exact h9)
            try (case c2 => first | rfl | (intro u hu; simp at hu; subst hu; rfl) | simp [Value.oneCell'])
            try (case c3 => first | omega | (simp [maxLen]; omega))
            try (case c4 => first | omega | (simp; omega))
            try (case c5 => first | omega | (simp; omega))
            intro v6 w6 ho6 hg6 _
            have hal6 : Below wC.heap.size wC (wC.alloc (.cells #[.int .i64 k] 3)) := (Below.refl _ _).alloc (Nat.le_refl _) _
            have HT6 : Hid (w6.ownsRow w2.heap.size 3 1 v6 (todoTo MK (k + 1)).length ((todoTo MK (k + 1)).map num)) := by
              rw [HTS.out]
              unfold Hid
              rw [if_pos trivial, List.length_append, List.map_append]
              exact ho6
            have HO6 := Lib.hid ((owns_below HO5.out hal6).kept hg6 (own_types (owns_below HO5.out hal6) (owns_below HT5.out hal6) (by decide)))
            have HB6 : Hid (Below w2.heap.size w2 w6) := (HB5.out.alloc HB5.out.size _).grown hg6 (by simp; omega) (fun b e => (HT5.out.lt b e).1)
            clear ho6 hg6 hal6
            go_wp2_with fail
            go_roundw
            case rel => exact ⟨k + 1, by omega, by go_num, HB6.out, HO6.out, HT6.out⟩
            case measure => simp [intOf]; omega
        · obtain rfl : N = k := by omega
          have HO7 : Hid (wr.ownsRow GB 4 1 (.slice (some ⟨GB, 0, none⟩) N N) N (MK.map Value.bool)) := by
            have := HO3.out
            rw [← hMl, goodTo_all, hMl] at this
            exact this
          have HT7 := Lib.hid (TailRow.of_owns (by simpa using HT3.out) : TailRow wr w2.heap.size 3 u9 ((todoTo MK N).map num))
          clear hb3 ho3 ht3 HO3 HT3
          go_wp2_with fail
          go_loopg [9] (2 * N + N + 1) (fun gk vt w5 => ∃ (good : List Bool) (todo : List Nat) (i : Nat), TailRow w5 w2.heap.size 3 vt (todo.map num) ∧ Queue st.edges (markOf p st.rows) good todo i (backOf st.edges i).length ∧ good.length = N
            ∧ 2 * falses good + todo.length ≤ gk ∧ 2 * falses good + todo.length ≤ 3 * N + 1 ∧ Below w2.heap.size w2 w5 ∧ w5.ownsRow GB 4 1 (.slice (some ⟨GB, 0, none⟩) N N) N (good.map Value.bool))
          case atStart =>
            have h1 := falses_le MK
            have h2 := todoTo_len MK N
            refine ⟨MK, todoTo MK N, N, HT7.out, ?_, hMl, by omega, by omega, HB3.out, HO7.out⟩
            rw [HMK.out, HNN.out]; exact queue_start p st
          case round =>
            obtain ⟨good, todo, i, hT, hQ, hgl, hleft, hmost, hb5, hg5⟩ := hrel
            clear HO7 HT7
            have HT := Lib.hid hT
            have HQ := Lib.hid hQ
            have HLEFT := Lib.hid hleft
            have HB5 := Lib.hid hb5
            have HG5 := Lib.hid hg5
            have hs5 := hb5.size
            clear hQ hleft
            cases todo with
            | nil =>
              obtain ⟨a9, c9, rfl⟩ := tail_len hT
              have HC := Lib.hid (Contains_bools GB _ false good wr (SliceK.of_owns (e := 4) encB_len hgl.symm (by rw [flat_encB]; exact hg5)))
              have HIFF := Lib.hid (controls_good HFND.out (by rw [hgl, HNN.out]) HQ.out.ok HQ.out.done)
              obtain ⟨cb, hcb⟩ : ∃ cb, cb = good.any fun y => y == false := ⟨_, rfl⟩
              rw [← hcb] at HC
              have HCB := Lib.hid hcb
              have hn0 : (([] : List Nat).length : Int) = 0 := rfl
              simp only [List.length_nil]
              clear hT hb5 hg5 hcb
              go_wp2_with fail
              refine Calls.mono HC.out ?_
              rintro e w6 ⟨rfl, rfl⟩
              go_wp2_with fail
              go_ret
              refine ⟨!cb, rfl, ⟨fun h => ⟨HOK.out.1, HOK.out.2.1, HOK.out.2.2, HIFF.out.2 ?_⟩, fun h => ?_⟩, HBW2.out.trans (HB5.out.mono HBW2.out.size)⟩
              · intro j hj
                rw [HCB.out] at h
                simp only [Bool.not_eq_true', List.any_eq_false, beq_iff_eq] at h
                have := h _ (List.getElem_mem hj)
                simpa using this
              · have h1 := HIFF.out.1 h.2.2.2
                rw [HCB.out]
                simp only [Bool.not_eq_true', List.any_eq_false, beq_iff_eq]
                intro x hx
                obtain ⟨j, hj, rfl⟩ := List.mem_iff_getElem.1 hx
                rw [h1 j hj]
                simp
            | cons n rest =>
              rw [List.map_cons] at hT HT
              obtain ⟨g9, o9, cap9, rfl, hg9b, hg9l, hcap1, hcap2, hcell⟩ := hT.head
              rw [List.length_map] at hcap1 ⊢
              have hn0 : (0 : Int) < ((rest.length + 1 : Nat) : Int) := by omega
              unfold num at hcell
              clear hT hb5 hg5
              have HKN := Lib.hid (HQ.out.known n (by simp))
              have hnN : n < N := by rw [← hgl]; exact (List.getElem?_eq_some_iff.1 HKN.out).1
              have hbk0 := HSU.out.back.below HB5.out
              have hvl : vs.length = N := by rw [hbk0.1, backs_len, HNN.out]
              have hnv : n < vs.length := by omega
              obtain ⟨bb, cbb, hbv, -, hbbl⟩ := hbk0.2.1.form (by omega)
              have x2 := (HSU.out.box.below HB5.out).cell 2 rfl
              rw [hbv] at x2
              have hxw := (HSU.out.box.below HB5.out).lt
              have hbk1 := hbk0.2.1
              rw [hbv] at hbk1
              have z0 := hbk1.cellAt n (by omega)
              rw [List.getElem?_eq_getElem hnv] at z0
              have hrow := HSU.out.back.2.2.1 n hnv (by rw [backs_len, ← HNN.out]; exact hnN)
              have hbk : (backs st)[n]'(by rw [backs_len, ← HNN.out]; exact hnN) = (backOf st.edges n).map fun (a : Nat) => Value.int .i64 (a : Int) := by simp [backs]
              rw [hbk, List.length_map] at hrow
              have hbl1 : (backOf st.edges n).length ≤ st.edges.length := by unfold backOf; rw [List.length_map]; exact List.length_filter_le _ _
              obtain ⟨mm, hmm⟩ : ∃ mm, mm = (backOf st.edges n).length := ⟨_, rfl⟩
              rw [← hmm] at hrow hbl1
              have HMM := Lib.hid hmm
              obtain ⟨arv, crv, hrv, -, -⟩ := owns_slice hrow
              rw [hrv] at z0 hrow
              have HROW := Lib.hid hrow
              have hni : (n : Int) < (vs.length : Int) := by omega
              have h2f := HLEFT.out
              simp only [List.length_cons] at h2f hmost
              obtain ⟨f0, hf0⟩ : ∃ f0, f0 = 2 * falses good := ⟨_, rfl⟩
              rw [← hf0] at hmost
              clear hbk0 hbv hbk1 hrow hbk hmm hrv h2f
              by_cases hc1 : cap9 = 1
              · have HR0 : Hid (rest = []) := List.eq_nil_of_length_eq_zero (by omega)
                have hc2 : cap9 - 1 = 0 := by omega
                have HT2 : Hid (TailRow wr w2.heap.size 3 (.slice (some ⟨g9, o9, none⟩) rest.length 0) (rest.map num)) := by
                  have h9 := HT.out
                  have h8 := HR0.out
                  subst h8
                  subst hc1
                  rcases h9 with ⟨h9, -⟩ | ⟨g, o, cap, cur, e9, k2, k3, k4, k5, k6, k7⟩
                  · cases h9
                  · simp only [Value.slice.injEq, Option.some.injEq, Addr.mk.injEq, and_true] at e9
                    obtain ⟨⟨rfl, rfl⟩, -, rfl⟩ := e9
                    exact .inr ⟨g9, o9, 0, cur, rfl, k2, k3, by simp, by simp [maxLen], by omega, fun j hj => by simp at hj⟩
                clear hc1
                go_wp2_with fail
                clear x2 z0 hcell
                obtain ⟨w6, hw6⟩ : ∃ w6, w6 = wr := ⟨_, rfl⟩
                go_loopw [9, 76] (fun vt j w7 => ∃ (k : Nat) (good : List Bool) (todo : List Nat), j = .int .i64 k ∧ k ≤ mm ∧ TailRow w7 w2.heap.size 3 vt (todo.map num) ∧ Queue st.edges (markOf p st.rows) good todo n k ∧ good.length = N ∧ 2 * falses good + todo.length ≤ f0 + rest.length ∧ good[n]? = some true
                  ∧ Below w2.heap.size w2 w7 ∧ w7.ownsRow GB 4 1 (.slice (some ⟨GB, 0, none⟩) N N) N (good.map Value.bool)) (fun _ j _ => mm - (intOf j).toNat)
                case atStart => exact ⟨0, good, rest, rfl, Nat.zero_le _, HT2.out, HQ.out.pop, hgl, by omega, HKN.out, HB5.out, HG5.out⟩
                case round =>
                  obtain ⟨k, good7, todo7, rfl, hk, hT7, hQ7, hgl7, hl7, hkn7, hb7, hg7⟩ := hrel
                  have HT7 := Lib.hid hT7
                  have HQ7 := Lib.hid hQ7
                  have HKN7 := Lib.hid hkn7
                  have HB7 := Lib.hid hb7
                  have HG7 := Lib.hid hg7
                  have hs7 := hb7.size
                  obtain ⟨a7, c7, rfl⟩ := tail_len hT7
                  clear hQ7 hkn7
                  by_cases hkm : k < mm
                  · have hrow7 := owns_below HROW.out hb7
                    obtain ⟨gr, crr, e9, -, hgrl⟩ := hrow7.form (by omega)
                    simp only [Value.slice.injEq, true_and] at e9
                    obtain ⟨rfl, rfl⟩ := e9
                    have hkb : k < (backOf st.edges n).length := by rw [← HMM.out]; exact hkm
                    have z7 := hrow7.cellAt k (by omega)
                    rw [List.getElem?_map, List.getElem?_eq_getElem hkb] at z7
                    obtain ⟨b, hb⟩ : ∃ b, b = (backOf st.edges n)[k] := ⟨_, rfl⟩
                    rw [← hb] at z7
                    simp only [Option.map_some] at z7
                    have hbN : b < N := by
                      rw [hb, HNN.out]
                      exact (HNOK.out.ends (_, n) (mem_backOf.1 (List.getElem_mem hkb))).1
                    have hbi : (b : Int) < (N : Int) := by omega
                    have HBV := Lib.hid hb
                    have c8 := cell_bool hg7 hbN
                    clear hT7 hb7 hrow7 hb
                    cases hgb : good7.getD b false
                    · rw [hgb] at c8
                      have HGB0 := Lib.hid (getD_some (by rw [hgl7]; exact hbN) hgb)
                      have f8 := hg7.frozenAt b
                      have ho8 := (hg7.stored b (.bool true)).1
                      have hst8 := grown_setCell wr ⟨GB, b, none⟩ (.bool true)
                      have HT8 := Lib.hid (HT7.out.kept hst8 (tail_type_ne HT7.out hg7 (by decide)))
                      rw [← List.map_set] at ho8
                      have HO8 := Lib.hid ho8
                      have HB8 : Hid (Below w2.heap.size w2 (wr.setCell ⟨GB, b, none⟩ (.bool true))) := HB7.out.setCell (by rw [HGB.out]; exact Nat.le_refl _) _
                      have hfs := falses_set HGB0.out
                      obtain ⟨wC, hwC⟩ : ∃ wC, wC = wr.setCell ⟨GB, b, none⟩ (.bool true) := ⟨_, rfl⟩
                      rw [← hwC] at HT8 HO8 HB8
                      have HWC := Lib.hid hwC
                      have hszC : wC.heap.size = wr.heap.size := by rw [hwC]; simp
                      obtain ⟨it, hit, hitz, hit1, hit2⟩ := info_parts info_int
                      clear ho8 hst8 hwC hgb hg7
                      go_wp2_with (at_builtin; rw [← HWC.out]; refine wpList_append_tail _ rfl _ _ 61 rfl w2.heap.size 3 it (.int .i64 0) 8 Tryz.underlying61 hit hitz hit1 hit2 rfl _ (todo7.map num) rfl (HT8.out.below ((Below.refl _ _).alloc (Nat.le_refl _) _)) ⟨wr.heap.size, 0, none⟩ (.int .i64 b) rfl ?d1 ?d2 ?d3 ?d4 ?d5 ?_)
                      try (case d1 => have h9 := cell_one_new wC (.int .i64 b) 3 0 _ rfl; rw [hszC] at h9; simpa [Addr.add] using h9)
                      try (case d2 => first | rfl | simp [Value.oneCell'])
                      try (case d3 => first | omega | (simp [maxLen]; omega))
                      try (case d4 => first | omega | (simp; omega))
                      try (case d5 => first | omega | (simp; omega))
                      intro v9 w9 hT9 hg9
                      have hal9 : Below wC.heap.size wC (wC.alloc (.cells #[.int .i64 b] 3)) := (Below.refl _ _).alloc (Nat.le_refl _) _
                      have HT9 : Hid (TailRow w9 w2.heap.size 3 v9 ((todo7 ++ [b]).map num)) := by unfold Hid; rw [List.map_append]; exact hT9
                      have HO9 := Lib.hid ((owns_below HO8.out hal9).kept hg9 (by
                        rcases tail_type_ne HT8.out HO8.out (by decide) with h | h
                        · rw [h]; exact .inr (by simp [Value.ownBlock])
                        · exact .inr (fun e => h e.symm)))
                      have HB9 : Hid (Below w2.heap.size w2 w9) := (HB8.out.alloc HB8.out.size _).grown hg9 (by simp; omega) (fun b e => (HT8.out.lt b e).1)
                      have HQ9 : Hid (Queue st.edges (markOf p st.rows) (good7.set b true) (todo7 ++ [b]) n (k + 1)) := by
                        have := HQ7.out.push hkb HKN7.out (by rw [← HBV.out]; exact HGB0.out)
                        rw [← HBV.out] at this
                        exact this
                      have HK9 : Hid ((good7.set b true)[n]? = some true) := (set_true_get (by rw [hgl7]; exact hbN)).2 (.inr HKN7.out)
                      clear hT9 hg9 hal9
                      go_wp2_with fail
                      go_roundw
                      case rel => exact ⟨k + 1, good7.set b true, todo7 ++ [b], by go_num, by omega, HT9.out, HQ9.out, by rw [List.length_set]; exact hgl7, by rw [List.length_append, List.length_singleton]; omega, HK9.out, HB9.out, HO9.out⟩
                      case measure => simp [intOf]; omega
                    · rw [hgb] at c8
                      have HGB0 := Lib.hid (getD_some (by rw [hgl7]; exact hbN) hgb)
                      clear hgb hg7
                      go_wp2_with fail
                      go_roundw
                      case rel => exact ⟨k + 1, good7, todo7, by go_num, by omega, HT7.out, HQ7.out.skip hkb (by rw [← HBV.out]; exact HGB0.out), hgl7, hl7, HKN7.out, HB7.out, HG7.out⟩
                      case measure => simp [intOf]; omega
                  · obtain rfl : k = mm := by omega
                    have HQ8 : Hid (Queue st.edges (markOf p st.rows) good7 todo7 n (backOf st.edges n).length) := by unfold Hid; rw [← HMM.out]; exact HQ7.out
                    clear hT7 hb7 hg7
                    go_wp2_with fail
                    go_roundg (2 * falses good7 + todo7.length)
                    case measure => have h1 := HLEFT.out; simp only [List.length_cons] at h1; omega
                    case rel => exact ⟨good7, todo7, n, HT7.out, HQ8.out, hgl7, Nat.le_refl _, by omega, HB7.out, HG7.out⟩
              · have hc2 : ¬ cap9 - 1 = 0 := by omega
                have hc3 : ¬ (cap9 : Int) - 1 = 0 := by omega
                have HT2 : Hid (TailRow wr w2.heap.size 3 (.slice (some ⟨g9, o9 + 1, none⟩) rest.length (cap9 - 1)) (rest.map num)) := by
                  have := HT.out.pop
                  rw [List.length_map] at this
                  exact this
                go_wp2_with fail
                clear x2 z0 hcell
                obtain ⟨w6, hw6⟩ : ∃ w6, w6 = wr := ⟨_, rfl⟩
                go_loopw [9, 76] (fun vt j w7 => ∃ (k : Nat) (good : List Bool) (todo : List Nat), j = .int .i64 k ∧ k ≤ mm ∧ TailRow w7 w2.heap.size 3 vt (todo.map num) ∧ Queue st.edges (markOf p st.rows) good todo n k ∧ good.length = N ∧ 2 * falses good + todo.length ≤ f0 + rest.length ∧ good[n]? = some true
                  ∧ Below w2.heap.size w2 w7 ∧ w7.ownsRow GB 4 1 (.slice (some ⟨GB, 0, none⟩) N N) N (good.map Value.bool)) (fun _ j _ => mm - (intOf j).toNat)
                case atStart => exact ⟨0, good, rest, rfl, Nat.zero_le _, HT2.out, HQ.out.pop, hgl, by omega, HKN.out, HB5.out, HG5.out⟩
                case round =>
                  obtain ⟨k, good7, todo7, rfl, hk, hT7, hQ7, hgl7, hl7, hkn7, hb7, hg7⟩ := hrel
                  have HT7 := Lib.hid hT7
                  have HQ7 := Lib.hid hQ7
                  have HKN7 := Lib.hid hkn7
                  have HB7 := Lib.hid hb7
                  have HG7 := Lib.hid hg7
                  have hs7 := hb7.size
                  obtain ⟨a7, c7, rfl⟩ := tail_len hT7
                  clear hQ7 hkn7
                  by_cases hkm : k < mm
                  · have hrow7 := owns_below HROW.out hb7
                    obtain ⟨gr, crr, e9, -, hgrl⟩ := hrow7.form (by omega)
                    simp only [Value.slice.injEq, true_and] at e9
                    obtain ⟨rfl, rfl⟩ := e9
                    have hkb : k < (backOf st.edges n).length := by rw [← HMM.out]; exact hkm
                    have z7 := hrow7.cellAt k (by omega)
                    rw [List.getElem?_map, List.getElem?_eq_getElem hkb] at z7
                    obtain ⟨b, hb⟩ : ∃ b, b = (backOf st.edges n)[k] := ⟨_, rfl⟩
                    rw [← hb] at z7
                    simp only [Option.map_some] at z7
                    have hbN : b < N := by
                      rw [hb, HNN.out]
                      exact (HNOK.out.ends (_, n) (mem_backOf.1 (List.getElem_mem hkb))).1
                    have hbi : (b : Int) < (N : Int) := by omega
                    have HBV := Lib.hid hb
                    have c8 := cell_bool hg7 hbN
                    clear hT7 hb7 hrow7 hb
                    cases hgb : good7.getD b false
                    · rw [hgb] at c8
                      have HGB0 := Lib.hid (getD_some (by rw [hgl7]; exact hbN) hgb)
                      have f8 := hg7.frozenAt b
                      have ho8 := (hg7.stored b (.bool true)).1
                      have hst8 := grown_setCell wr ⟨GB, b, none⟩ (.bool true)
                      have HT8 := Lib.hid (HT7.out.kept hst8 (tail_type_ne HT7.out hg7 (by decide)))
                      rw [← List.map_set] at ho8
                      have HO8 := Lib.hid ho8
                      have HB8 : Hid (Below w2.heap.size w2 (wr.setCell ⟨GB, b, none⟩ (.bool true))) := HB7.out.setCell (by rw [HGB.out]; exact Nat.le_refl _) _
                      have hfs := falses_set HGB0.out
                      obtain ⟨wC, hwC⟩ : ∃ wC, wC = wr.setCell ⟨GB, b, none⟩ (.bool true) := ⟨_, rfl⟩
                      rw [← hwC] at HT8 HO8 HB8
                      have HWC := Lib.hid hwC
                      have hszC : wC.heap.size = wr.heap.size := by rw [hwC]; simp
                      obtain ⟨it, hit, hitz, hit1, hit2⟩ := info_parts info_int
                      clear ho8 hst8 hwC hgb hg7
                      go_wp2_with (at_builtin; rw [← HWC.out]; refine wpList_append_tail _ rfl _ _ 61 rfl w2.heap.size 3 it (.int .i64 0) 8 Tryz.underlying61 hit hitz hit1 hit2 rfl _ (todo7.map num) rfl (HT8.out.below ((Below.refl _ _).alloc (Nat.le_refl _) _)) ⟨wr.heap.size, 0, none⟩ (.int .i64 b) rfl ?d1 ?d2 ?d3 ?d4 ?d5 ?_)
                      try (case d1 => have h9 := cell_one_new wC (.int .i64 b) 3 0 _ rfl; rw [hszC] at h9; simpa [Addr.add] using h9)
                      try (case d2 => first | rfl | simp [Value.oneCell'])
                      try (case d3 => first | omega | (simp [maxLen]; omega))
                      try (case d4 => first | omega | (simp; omega))
                      try (case d5 => first | omega | (simp; omega))
                      intro v9 w9 hT9 hg9
                      have hal9 : Below wC.heap.size wC (wC.alloc (.cells #[.int .i64 b] 3)) := (Below.refl _ _).alloc (Nat.le_refl _) _
                      have HT9 : Hid (TailRow w9 w2.heap.size 3 v9 ((todo7 ++ [b]).map num)) := by unfold Hid; rw [List.map_append]; exact hT9
                      have HO9 := Lib.hid ((owns_below HO8.out hal9).kept hg9 (by
                        rcases tail_type_ne HT8.out HO8.out (by decide) with h | h
                        · rw [h]; exact .inr (by simp [Value.ownBlock])
                        · exact .inr (fun e => h e.symm)))
                      have HB9 : Hid (Below w2.heap.size w2 w9) := (HB8.out.alloc HB8.out.size _).grown hg9 (by simp; omega) (fun b e => (HT8.out.lt b e).1)
                      have HQ9 : Hid (Queue st.edges (markOf p st.rows) (good7.set b true) (todo7 ++ [b]) n (k + 1)) := by
                        have := HQ7.out.push hkb HKN7.out (by rw [← HBV.out]; exact HGB0.out)
                        rw [← HBV.out] at this
                        exact this
                      have HK9 : Hid ((good7.set b true)[n]? = some true) := (set_true_get (by rw [hgl7]; exact hbN)).2 (.inr HKN7.out)
                      clear hT9 hg9 hal9
                      go_wp2_with fail
                      go_roundw
                      case rel => exact ⟨k + 1, good7.set b true, todo7 ++ [b], by go_num, by omega, HT9.out, HQ9.out, by rw [List.length_set]; exact hgl7, by rw [List.length_append, List.length_singleton]; omega, HK9.out, HB9.out, HO9.out⟩
                      case measure => simp [intOf]; omega
                    · rw [hgb] at c8
                      have HGB0 := Lib.hid (getD_some (by rw [hgl7]; exact hbN) hgb)
                      clear hgb hg7
                      go_wp2_with fail
                      go_roundw
                      case rel => exact ⟨k + 1, good7, todo7, by go_num, by omega, HT7.out, HQ7.out.skip hkb (by rw [← HBV.out]; exact HGB0.out), hgl7, hl7, HKN7.out, HB7.out, HG7.out⟩
                      case measure => simp [intOf]; omega
                  · obtain rfl : k = mm := by omega
                    have HQ8 : Hid (Queue st.edges (markOf p st.rows) good7 todo7 n (backOf st.edges n).length) := by unfold Hid; rw [← HMM.out]; exact HQ7.out
                    clear hT7 hb7 hg7
                    go_wp2_with fail
                    go_roundg (2 * falses good7 + todo7.length)
                    case measure => have h1 := HLEFT.out; simp only [List.length_cons] at h1; omega
                    case rel => exact ⟨good7, todo7, n, HT7.out, HQ8.out, hgl7, Nat.le_refl _, by omega, HB7.out, HG7.out⟩
  · have HOK := Lib.hid hok
    have HC := Lib.hid (plantCode_bad lo _ 2 2 p [r, s] lvp evp mvp nvp _ _ Y H1.out H4.out (HPW.out.below HBY.out) rfl (by decide) HROW.out (GW.out.below HBY.out) (fun h => hok ⟨h.1, two_free.1 h.2⟩))
    clear hok
    go_enter Tryz.func9, Tryz.ntmps9
    go_wp2_with fail
    rw [← HW.out, ← HMB.out, ← HX.out, ← HY.out]
    refine Calls.mono HC.out ?_
    rintro e w1 ⟨rfl, hb1⟩
    have HB1 := Lib.hid (HB0.out.trans ((HBY.out.trans (hb1.mono HBY.out.size)).mono HB0.out.size))
    clear hb1 p0 p1 p2 p3 p4 p5 r0 r1 r2 r3 s0 s1 s2 s3
    go_wp2_with fail
    go_ret
    exact ⟨false, rfl, ⟨(fun h => by cases h), fun h => absurd ⟨h.1, h.2.1, h.2.2.1⟩ HOK.out⟩, HB1.out⟩

end Go.Proofs.YtkffdamgekoifaaGreatDoor
