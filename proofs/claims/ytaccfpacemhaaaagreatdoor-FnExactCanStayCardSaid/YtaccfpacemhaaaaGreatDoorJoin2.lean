/-
  For all arguments the law FnExactCanStay answers true: the walk that joins both sides.
-/
import Derived.Test.YtaccfpacemhaaaaGreatDoorJoin1
namespace Go.Proofs.YtaccfpacemhaaaaGreatDoor
open Go Go.RowKit

/-- The boxes of the law's two arguments. -/
structure Boxes (n0 : Nat) (t p : Lts) (lv ev lv2 ev2 : Value) (w : World) : Prop where
  one : Blk w n0 [.int .i64 t.states, .int .i64 t.initial, lv, ev] 25
  two : Blk w (n0 + 1) [.int .i64 p.states, .int .i64 p.initial, lv2, ev2] 25
theorem Boxes.below {n0 : Nat} {t p : Lts} {lv ev lv2 ev2 : Value} {w w' : World} (h : Boxes n0 t p lv ev lv2 ev2 w) (hb : Below w.heap.size w w') : Boxes n0 t p lv ev lv2 ev2 w' := ⟨h.one.below hb, h.two.below hb⟩
theorem Boxes.cells {n0 : Nat} {t p : Lts} {lv ev lv2 ev2 : Value} {w : World} (h : Boxes n0 t p lv ev lv2 ev2 w) :
    w.cell? ⟨n0, 0, none⟩ = some (.int .i64 t.states) ∧ w.cell? ⟨n0, 1, none⟩ = some (.int .i64 t.initial) ∧ w.cell? ⟨n0, 2, none⟩ = some (lv) ∧ w.cell? ⟨n0, 3, none⟩ = some (ev) ∧ w.cell? ⟨n0 + 1, 0, none⟩ = some (.int .i64 p.states) ∧ w.cell? ⟨n0 + 1, 1, none⟩ = some (.int .i64 p.initial) ∧ w.cell? ⟨n0 + 1, 2, none⟩ = some (lv2) ∧ w.cell? ⟨n0 + 1, 3, none⟩ = some (ev2) :=
  ⟨h.one.cell 0 rfl, h.one.cell 1 rfl, h.one.cell 2 rfl, h.one.cell 3 rfl, h.two.cell 0 rfl, h.two.cell 1 rfl, h.two.cell 2 rfl, h.two.cell 3 rfl⟩

/-- A copy of a system, with both slices in blocks of its own. -/
structure Copy (B : Nat) (t : Lts) (b1 b2 : Nat) (w : World) : Prop where
  h1 : B ≤ b1
  h2 : b1 < b2
  h3 : b2 < w.heap.size
  o1 : w.ownsRow B 9 1 (.slice (some ⟨b1, 0, none⟩) t.labels.length t.labels.length) t.labels.length (t.labels.map .string)
  o2 : w.ownsRow b2 66 3 (.slice (some ⟨b2, 0, none⟩) t.edges.length t.edges.length) t.edges.length (t.edges.flatMap encE)
theorem Copy.below {B : Nat} {t : Lts} {b1 b2 : Nat} {w w' : World} (h : Copy B t b1 b2 w) (hb : Below w.heap.size w w') : Copy B t b1 b2 w' :=
  ⟨h.h1, h.h2, Nat.lt_of_lt_of_le h.h3 hb.size, owns_below h.o1 hb, owns_below h.o2 hb⟩
theorem Copy.labels {B : Nat} {t : Lts} {b1 b2 : Nat} {w : World} (h : Copy B t b1 b2 w) : SliceK 1 encS 0 w (.slice (some ⟨b1, 0, none⟩) t.labels.length t.labels.length) t.labels :=
  SliceK.of_owns (e := 9) encS_len rfl (by rw [flat_encS]; exact own_lower h.o1 (Nat.zero_le _))
theorem Copy.edges {B : Nat} {t : Lts} {b1 b2 : Nat} {w : World} (h : Copy B t b1 b2 w) : SliceK 3 encE 0 w (.slice (some ⟨b2, 0, none⟩) t.edges.length t.edges.length) t.edges :=
  SliceK.of_owns (e := 66) encE_len rfl (own_lower h.o2 (Nat.zero_le _))
theorem Copy.at {B : Nat} {t : Lts} {b1 b2 : Nat} {w : World} (h : Copy B t b1 b2 w) : LtsAt 0 w (.agg #[.int .i64 t.states, .int .i64 t.initial, .slice (some ⟨b1, 0, none⟩) t.labels.length t.labels.length, .slice (some ⟨b2, 0, none⟩) t.edges.length t.edges.length]) t :=
  ⟨_, _, rfl, h.labels, h.edges⟩
def copyV (t : Lts) (b1 b2 : Nat) : Value := .agg #[.int .i64 t.states, .int .i64 t.initial, .slice (some ⟨b1, 0, none⟩) t.labels.length t.labels.length, .slice (some ⟨b2, 0, none⟩) t.edges.length t.edges.length]
def CopyMade (t : Lts) (w : World) (e : Ending) (w' : World) : Prop := ∃ b1 b2, e = .returned (.agg #[.int .i64 t.states, .int .i64 t.initial, .slice (some ⟨b1, 0, none⟩) t.labels.length t.labels.length, .slice (some ⟨b2, 0, none⟩) t.edges.length t.edges.length]) ∧ Below w.heap.size w w' ∧ Copy w.heap.size t b1 b2 w'
theorem copy_of {t : Lts} {w : World} {args : Array Value} (h : Calls Tryz.prog 6 args w (MadeLts w t)) : Calls Tryz.prog 6 args w (CopyMade t w) :=
  h.mono fun _ _ ⟨b1, b2, he, hb, h1, h2, h3, h4, h5⟩ => ⟨b1, b2, he, hb, h1, h2, h3, h4, h5⟩

theorem Copy.turns {B : Nat} {t : Lts} {b1 b2 lo hi : Nat} {w w' : World} (h : Copy B t b1 b2 w) (ht : Turns lo hi w w') (hB : hi ≤ B) : Copy B t b1 b2 w' :=
  ⟨h.h1, h.h2, Nat.lt_of_lt_of_le h.h3 ht.size, owns_turns h.o1 ht (fun b e => by have := (h.o1.lt b e).1; omega), owns_turns h.o2 ht (fun b e => by have := (h.o2.lt b e).1; have := h.h1; have := h.h2; omega)⟩

set_option maxRecDepth 100000 in
set_option maxHeartbeats 1000000 in
theorem law_true (lo : Nat) (t p : Lts) (lv ev lv2 ev2 : Value) (w : World) (hs1 : SliceK 1 encS lo w lv t.labels) (hs2 : SliceK 3 encE lo w ev t.edges) (hq1 : SliceK 1 encS lo w lv2 p.labels) (hq2 : SliceK 3 encE lo w ev2 p.edges)
    (hst : StrsOk t.labels) (hsp : StrsOk p.labels) (g : Glob w) :
    Calls Tryz.prog 3 #[.agg #[.int .i64 t.states, .int .i64 t.initial, lv, ev], .agg #[.int .i64 p.states, .int .i64 p.initial, lv2, ev2]] w fun e w' => e = .returned (.bool true) ∧ Below w.heap.size w w' := by
  obtain ⟨W1, hW1⟩ : ∃ W1, W1 = (w.alloc (.cells #[.int .i64 t.states, .int .i64 t.initial, lv, ev] 25)).alloc (.cells #[.int .i64 p.states, .int .i64 p.initial, lv2, ev2] 25) := ⟨_, rfl⟩
  obtain ⟨n0, hn0⟩ : ∃ n0, n0 = w.heap.size := ⟨_, rfl⟩
  have hB1 : Below w.heap.size w W1 := by rw [hW1]; exact two_new' _ _ _ _
  have hBX : Boxes n0 t p lv ev lv2 ev2 W1 := by
    have e9 : (w.alloc (.cells #[.int .i64 t.states, .int .i64 t.initial, lv, ev] 25)).heap.size = n0 + 1 := by simp [hn0]
    rw [hW1, hn0]
    refine ⟨(Blk.new w _ _).alloc _, ?_⟩
    rw [← hn0, ← e9]
    exact Blk.new _ _ _
  have hT : LtsAt lo W1 (.agg #[.int .i64 t.states, .int .i64 t.initial, lv, ev]) t := ⟨lv, ev, rfl, hs1.below hB1, hs2.below hB1⟩
  have hP : LtsAt lo W1 (.agg #[.int .i64 p.states, .int .i64 p.initial, lv2, ev2]) p := ⟨lv2, ev2, rfl, hq1.below hB1, hq2.below hB1⟩
  have hG := g.below hB1
  have HC1 := Lib.hid (szLts_any _ lo t 1048576 W1 (by decide) (by decide) hst hT)
  rw [hW1] at HC1
  have HW1 := Lib.hid hW1
  have HB1 := Lib.hid hB1
  have HBX := Lib.hid hBX
  have HT := Lib.hid hT
  have HP := Lib.hid hP
  have HG := Lib.hid hG
  have HST := Lib.hid hst
  have HSP := Lib.hid hsp
  clear hB1 hBX hT hP hG hst hsp hs1 hs2 hq1 hq2 g hW1
  by_cases c1 : szL t 1048576 < 0
  · go_enter Tryz.func3, Tryz.ntmps3
    go_wp2_with fail
    refine Calls.mono HC1.out ?_
    rintro e w2 ⟨rfl, hb2⟩
    rw [← HW1.out] at hb2
    have HB2 := Lib.hid (HB1.out.trans (hb2.mono HB1.out.size))
    clear hb2
    go_wp2_with fail
    go_ret
    exact ⟨rfl, HB2.out⟩
  have hfit := szL_fit (t := t) (left := 1048576) (by decide) (by omega)
  obtain ⟨L, hL⟩ : ∃ L, L = szL t 1048576 := ⟨_, rfl⟩
  rw [← hL] at c1 hfit HC1
  have hL0 : 0 ≤ L := by omega
  have hL1 : L ≤ 1048576 := hfit.2.2.2
  by_cases c2 : szL p L < 0
  · clear hL hfit
    go_enter Tryz.func3, Tryz.ntmps3
    go_wp2_with fail
    refine Calls.mono HC1.out ?_
    rintro e w2 ⟨rfl, hb2⟩
    rw [← HW1.out] at hb2
    have HB2 := Lib.hid hb2
    have y0 := (HBX.out.below hb2).two.cell 0 rfl
    have y1 := (HBX.out.below hb2).two.cell 1 rfl
    have y2 := (HBX.out.below hb2).two.cell 2 rfl
    have y3 := (HBX.out.below hb2).two.cell 3 rfl
    rw [hn0] at y0 y1 y2 y3
    clear hb2 hn0
    go_wp2_with fail
    refine (szLts_any _ lo p L _ hL0 hL1 HSP.out (HP.out.below HB2.out)).mono ?_
    rintro e w3 ⟨rfl, hb3⟩
    have HB3 := Lib.hid (HB1.out.trans ((HB2.out.trans (hb3.mono HB2.out.size)).mono HB1.out.size))
    clear hb3
    go_wp2_with fail
    go_ret
    exact ⟨rfl, HB3.out⟩
  have hfit2 := szL_fit (t := p) (left := L) hL0 (by omega)
  have HSH1 : Hid (Short20 t.labels) := fun i hi => by have := hfit.2.2.1 _ (List.getElem_mem hi); omega
  have HSH2 : Hid (Short20 p.labels) := fun i hi => by have := hfit2.2.2.1 _ (List.getElem_mem hi); omega
  have HSR1 : Hid (Short t.labels) := fun i hi => Nat.le_trans (HSH1.out i hi) (by decide)
  have HSR2 : Hid (Short p.labels) := fun i hi => Nat.le_trans (HSH2.out i hi) (by decide)
  have ht1 : t.labels.length ≤ 1048576 := by omega
  have ht2 : t.edges.length ≤ 1048576 := by omega
  have hp1 : p.labels.length ≤ 1048576 := by omega
  have hp2 : p.edges.length ≤ 1048576 := by omega
  have HTT : Hid (∀ w', Below W1.heap.size W1 w' → Calls Tryz.prog 6 #[.agg #[.int .i64 t.states, .int .i64 t.initial, lv, ev]] w' (CopyMade t w')) := fun w' hb => copy_of (toLts_any _ lo t w' ht1 ht2 (HT.out.below hb))
  have HTP : Hid (∀ w', Below W1.heap.size W1 w' → Calls Tryz.prog 6 #[.agg #[.int .i64 p.states, .int .i64 p.initial, lv2, ev2]] w' (CopyMade p w')) := fun w' hb => copy_of (toLts_any _ lo p w' hp1 hp2 (HP.out.below hb))
  have htot := pairsFor_total t p
  obtain ⟨code, hcode⟩ : ∃ code, code = codeOf t p := ⟨_, rfl⟩
  obtain ⟨xss, hxss⟩ : ∃ xss, xss = pairsFor t p := ⟨_, rfl⟩
  rw [← hxss] at htot
  have HCODE := Lib.hid hcode
  have HXSS := Lib.hid hxss
  have hlt := Nat.le_trans ht1 (show 1048576 ≤ 1048576 from Nat.le_refl _)
  have HTOT := Lib.hid htot
  have HLEN : Hid ((t.labels.length ≤ 1048576 ∧ t.edges.length ≤ 1048576) ∧ (p.labels.length ≤ 1048576 ∧ p.edges.length ≤ 1048576)) := ⟨⟨ht1, ht2⟩, ⟨hp1, hp2⟩⟩
  have HL1 := Lib.hid hL1
  obtain ⟨M, hM⟩ : ∃ M, M = szL p L := ⟨_, rfl⟩
  have HC2 := Lib.hid (fun w' (hb : Below W1.heap.size W1 w') => szLts_any _ lo p L w' hL0 hL1 HSP.out (HP.out.below hb))
  rw [← hM] at HC2 c2
  clear hfit hfit2 hcode hxss hlt ht1 ht2 hp1 hp2 htot hL1 hM hL
  have HN0 := Lib.hid hn0
  go_enter Tryz.func3, Tryz.ntmps3
  go_wp2_with fail
  refine Calls.mono HC1.out ?_
  rintro e w2 ⟨rfl, hb2⟩
  rw [← HW1.out] at hb2
  have HB2 := Lib.hid hb2
  have y0 := (HBX.out.below hb2).two.cell 0 rfl
  have y1 := (HBX.out.below hb2).two.cell 1 rfl
  have y2 := (HBX.out.below hb2).two.cell 2 rfl
  have y3 := (HBX.out.below hb2).two.cell 3 rfl
  rw [hn0] at y0 y1 y2 y3
  clear hb2 hn0
  go_wp2_with fail
  refine Calls.mono (HC2.out _ HB2.out) ?_
  rintro e w3 ⟨rfl, hb3⟩
  have HB3 := Lib.hid (HB2.out.trans (hb3.mono HB2.out.size))
  clear hb3 y0 y1 y2 y3 HC1
  rw [← HN0.out]
  go_wp2_with fail
  have hDa : Below W1.heap.size W1 w3.drew := HB3.out.drew
  have BDa := Lib.hid (HBX.out.below hDa)
  have BEa := Lib.hid (HBX.out.below HB3.out)
  go_region_held3 (fun w' => w'.cell? ⟨n0, 0, none⟩ = some (.int .i64 t.states) ∧ w'.cell? ⟨n0, 1, none⟩ = some (.int .i64 t.initial) ∧ w'.cell? ⟨n0, 2, none⟩ = some (lv) ∧ w'.cell? ⟨n0, 3, none⟩ = some (ev) ∧ w'.cell? ⟨n0 + 1, 0, none⟩ = some (.int .i64 p.states) ∧ w'.cell? ⟨n0 + 1, 1, none⟩ = some (.int .i64 p.initial) ∧ w'.cell? ⟨n0 + 1, 2, none⟩ = some (lv2) ∧ w'.cell? ⟨n0 + 1, 3, none⟩ = some (ev2))
    (first
      | exact BDa.out.cells
      | exact BEa.out.cells
      | exact B9a.out.cells
      | exact B10a.out.cells
      | exact B11a.out.cells
      | go_keep)
    (first
      | (go_at_call_of 6 (Value.agg #[Value.int .i64 t.states, Value.int .i64 t.initial, lv, ev]); refine Calls.mono (HTT.out _ hDa) ?_; rintro e w9a ⟨b1a, b2a, rfl, hb9a, hc9a⟩; have hD9a : Below W1.heap.size W1 w9a := hDa.trans (hb9a.mono hDa.size); have B9a := Lib.hid (HBX.out.below hD9a))
      | (go_at_call_of 6 (Value.agg #[Value.int .i64 p.states, Value.int .i64 p.initial, lv2, ev2]); refine Calls.mono (HTP.out _ hD9a) ?_; rintro e w10a ⟨b3a, b4a, rfl, hb10a, hc10a⟩; have hD10a : Below W1.heap.size W1 w10a := hD9a.trans (hb10a.mono hD9a.size); have B10a := Lib.hid (HBX.out.below hD10a))
      | (go_at_call 5; refine Calls.mono (specCanStay_all 0 t p _ _ _ _ _ HSR1.out HSR2.out (hc9a.labels.below hb10a) (hc9a.edges.below hb10a) hc10a.labels hc10a.edges) ?_; rintro e w11a ⟨vSa, vsSa, rfl, hb11a, hoSa⟩; have hD11a : Below W1.heap.size W1 w11a := hD10a.trans (hb11a.mono hD10a.size); have B11a := Lib.hid (HBX.out.below hD11a)))
  have HSV0 := hoSa.at
  rw [← HXSS.out] at HSV0
  have HSV := Lib.hid HSV0
  have D11 := Lib.hid hD11a
  obtain ⟨wS, hwS⟩ : ∃ wS, wS = w11a := ⟨_, rfl⟩
  rw [← hwS] at HSV D11 B11a ⊢
  clear HSV0 hoSa hb11a hb10a hb9a hc9a hc10a hD9a hD10a hD11a hDa BDa BEa B9a B10a hwS
  obtain ⟨x0, x1, x2, x3, y0, y1, y2, y3⟩ := B11a.out.cells
  go_wp2_with fail
  refine Calls.mono (HTT.out _ D11.out) ?_
  rintro e w12 ⟨b5, b6, rfl, hb12, hc12⟩
  have E12 := Lib.hid hb12
  have D12 := Lib.hid (D11.out.trans (hb12.mono D11.out.size))
  have HC12 := Lib.hid hc12
  have HB6' := hc12.h3
  have HX0 : Hid (Blk (w12.alloc (.cells #[.int .i64 t.states, .int .i64 t.initial, .slice (some ⟨b5, 0, none⟩) t.labels.length t.labels.length, .slice (some ⟨b6, 0, none⟩) t.edges.length t.edges.length] 32)) w12.heap.size [.int .i64 t.states, .int .i64 t.initial, .slice (some ⟨b5, 0, none⟩) t.labels.length t.labels.length, .slice (some ⟨b6, 0, none⟩) t.edges.length t.edges.length] 32) := Blk.new _ _ _
  obtain ⟨w13, hw13⟩ : ∃ w13, w13 = w12.alloc (.cells #[.int .i64 t.states, .int .i64 t.initial, .slice (some ⟨b5, 0, none⟩) t.labels.length t.labels.length, .slice (some ⟨b6, 0, none⟩) t.edges.length t.edges.length] 32) := ⟨_, rfl⟩
  rw [← hw13] at HX0
  have hz13 : w13.heap.size = w12.heap.size + 1 := by rw [hw13]; simp
  have hb13 : Below w12.heap.size w12 w13 := by rw [hw13]; exact box_below _ _ _
  obtain ⟨k8, hk8⟩ : ∃ k8, k8 = w12.heap.size := ⟨_, rfl⟩
  rw [← hk8] at HB6'
  have HB6 := Lib.hid HB6'
  have E13 := Lib.hid (E12.out.trans (hb13.mono E12.out.size))
  have D13 := Lib.hid (D12.out.trans (hb13.mono D12.out.size))
  have HC13 := Lib.hid (HC12.out.below hb13)
  have B13 := Lib.hid (HBX.out.below D13.out)
  obtain ⟨x0', x1', x2', x3', y0', y1', y2', y3'⟩ := B13.out.cells
  have HW13 := Lib.hid hw13
  have HK8 := Lib.hid hk8
  have HZ13 := Lib.hid hz13
  rw [hw13] at y0' y1' y2' y3'
  clear HB6' hb12 hc12 HC12 hb13 hw13 hz13 x0 x1 x2 x3 y0 y1 y2 y3 x0' x1' x2' x3' hk8
  go_wp2_with fail
  rw [← HW13.out]
  refine Calls.mono (HTP.out _ D13.out) ?_
  rintro e w14 ⟨b7, b8, rfl, hb14, hc14⟩
  have E14 := Lib.hid (E13.out.trans (hb14.mono E13.out.size))
  have D14 := Lib.hid (D13.out.trans (hb14.mono D13.out.size))
  have HC14 := Lib.hid hc14
  have HB8' := hc14.h3
  have HCX14 := Lib.hid (HC13.out.below hb14)
  have HX14 := Lib.hid (HX0.out.below hb14)
  rw [← HK8.out] at HX14 ⊢
  have HZ14 : Hid (w13.heap.size ≤ w14.heap.size) := hb14.size
  obtain ⟨w15, hw15⟩ : ∃ w15, w15 = w14.alloc (.cells #[.int .i64 p.states, .int .i64 p.initial, .slice (some ⟨b7, 0, none⟩) p.labels.length p.labels.length, .slice (some ⟨b8, 0, none⟩) p.edges.length p.edges.length] 32) := ⟨_, rfl⟩
  have hz15 : w15.heap.size = w14.heap.size + 1 := by rw [hw15]; simp
  have hb15 : Below w14.heap.size w14 w15 := by rw [hw15]; exact box_below _ _ _
  obtain ⟨k9, hk9⟩ : ∃ k9, k9 = w14.heap.size := ⟨_, rfl⟩
  rw [← hk9] at HB8'
  have HB8 := Lib.hid HB8'
  have HY15 : Hid (Blk w15 k9 [.int .i64 p.states, .int .i64 p.initial, .slice (some ⟨b7, 0, none⟩) p.labels.length p.labels.length, .slice (some ⟨b8, 0, none⟩) p.edges.length p.edges.length] 32) := by rw [hw15, hk9]; exact Blk.new _ _ _
  have E15 := Lib.hid (E14.out.trans (hb15.mono E14.out.size))
  have D15 := Lib.hid (D14.out.trans (hb15.mono D14.out.size))
  have HCX15 := Lib.hid (HCX14.out.below hb15)
  have HCY15 := Lib.hid (HC14.out.below hb15)
  have HX15 := Lib.hid (HX14.out.below hb15)
  have hk8l : k8 < w14.heap.size := HX14.out.lt
  have q0 := HX14.out.cell 0 rfl
  have q1 := HX14.out.cell 1 rfl
  have q2 := HX14.out.cell 2 rfl
  have q3 := HX14.out.cell 3 rfl
  have HW15 := Lib.hid hw15
  have HK9 := Lib.hid hk9
  have HZ15 := Lib.hid hz15
  clear HB8' hb14 hc14 HC14 HCX14 HX14 hb15 hw15 hz15 hk9 y0' y1' y2' y3' HW13 HX0
  have HGO := Lib.hid (implCanStay_all 0 t p _ _ _ _ w15 HSH1.out HSH2.out HCX15.out.labels HCX15.out.edges HCY15.out.labels HCY15.out.edges (HG.out.below D15.out))
  go_wp2_with fail
  rw [← HW15.out]
  refine Calls.mono HGO.out ?_
  rintro e w16 ⟨vG, vsG, rfl, hb16, hoG⟩
  rw [← HXSS.out] at hoG
  rw [← HK9.out]
  have HOG := Lib.hid hoG
  have E16 := Lib.hid (E15.out.trans (hb16.mono E15.out.size))
  have D16 := Lib.hid (D15.out.trans (hb16.mono D15.out.size))
  have HCX16 := Lib.hid (HCX15.out.below hb16)
  have HCY16 := Lib.hid (HCY15.out.below hb16)
  have HX16 := Lib.hid (HX15.out.below hb16)
  have HY16 := Lib.hid (HY15.out.below hb16)
  clear hb16 hoG q0 q1 q2 q3 hk8l HGO HW15
  go_wp2_with fail
  refine (eqInt64SS_same vG vSa _ _ xss _ HOG.out.at (HSV.out.below E16.out)).mono ?_
  rintro e w17 ⟨rfl, hb17⟩
  have HOG17 := Lib.hid (HOG.out.below hb17)
  have E17 := Lib.hid (E16.out.trans (hb17.mono E16.out.size))
  have D17 := Lib.hid (D16.out.trans (hb17.mono D16.out.size))
  have HCX17 := Lib.hid (HCX16.out.below hb17)
  have HCY17 := Lib.hid (HCY16.out.below hb17)
  have HX17 := Lib.hid (HX16.out.below hb17)
  have HY17 := Lib.hid (HY16.out.below hb17)
  clear hb17
  go_wp2_with fail

  have hr17 : Below w17.heap.size w17 w17.drew := (Below.refl _ _).drew
  have GD17 : w17.drew.cell? ⟨k8, 0, none⟩ = some (Value.int .i64 t.states) ∧ w17.drew.cell? ⟨k8, 1, none⟩ = some (Value.int .i64 t.initial) ∧ w17.drew.cell? ⟨k8, 2, none⟩ = some (Value.slice (some ⟨b5, 0, none⟩) t.labels.length t.labels.length) ∧ w17.drew.cell? ⟨k8, 3, none⟩ = some (Value.slice (some ⟨b6, 0, none⟩) t.edges.length t.edges.length) ∧ w17.drew.cell? ⟨n0, 0, none⟩ = some (Value.int .i64 t.states) ∧ w17.drew.cell? ⟨n0, 1, none⟩ = some (Value.int .i64 t.initial) ∧ w17.drew.cell? ⟨n0, 2, none⟩ = some lv ∧ w17.drew.cell? ⟨n0, 3, none⟩ = some ev := ⟨(HX17.out.below hr17).cell 0 rfl, (HX17.out.below hr17).cell 1 rfl, (HX17.out.below hr17).cell 2 rfl, (HX17.out.below hr17).cell 3 rfl, ((HBX.out.below D17.out).below hr17).one.cell 0 rfl, ((HBX.out.below D17.out).below hr17).one.cell 1 rfl, ((HBX.out.below D17.out).below hr17).one.cell 2 rfl, ((HBX.out.below D17.out).below hr17).one.cell 3 rfl⟩
  have GDH17 := Lib.hid GD17
  have GE17 : w17.cell? ⟨k8, 0, none⟩ = some (Value.int .i64 t.states) ∧ w17.cell? ⟨k8, 1, none⟩ = some (Value.int .i64 t.initial) ∧ w17.cell? ⟨k8, 2, none⟩ = some (Value.slice (some ⟨b5, 0, none⟩) t.labels.length t.labels.length) ∧ w17.cell? ⟨k8, 3, none⟩ = some (Value.slice (some ⟨b6, 0, none⟩) t.edges.length t.edges.length) ∧ w17.cell? ⟨n0, 0, none⟩ = some (Value.int .i64 t.states) ∧ w17.cell? ⟨n0, 1, none⟩ = some (Value.int .i64 t.initial) ∧ w17.cell? ⟨n0, 2, none⟩ = some lv ∧ w17.cell? ⟨n0, 3, none⟩ = some ev := ⟨(HX17.out.below (Below.refl _ _)).cell 0 rfl, (HX17.out.below (Below.refl _ _)).cell 1 rfl, (HX17.out.below (Below.refl _ _)).cell 2 rfl, (HX17.out.below (Below.refl _ _)).cell 3 rfl, ((HBX.out.below D17.out).below (Below.refl _ _)).one.cell 0 rfl, ((HBX.out.below D17.out).below (Below.refl _ _)).one.cell 1 rfl, ((HBX.out.below D17.out).below (Below.refl _ _)).one.cell 2 rfl, ((HBX.out.below D17.out).below (Below.refl _ _)).one.cell 3 rfl⟩
  have GEH17 := Lib.hid GE17
  have hD17 : Below W1.heap.size W1 w17.drew := D17.out.drew
  clear GD17 GE17
  go_region_held3 (fun w' => w'.cell? ⟨k8, 0, none⟩ = some (Value.int .i64 t.states) ∧ w'.cell? ⟨k8, 1, none⟩ = some (Value.int .i64 t.initial) ∧ w'.cell? ⟨k8, 2, none⟩ = some (Value.slice (some ⟨b5, 0, none⟩) t.labels.length t.labels.length) ∧ w'.cell? ⟨k8, 3, none⟩ = some (Value.slice (some ⟨b6, 0, none⟩) t.edges.length t.edges.length) ∧ w'.cell? ⟨n0, 0, none⟩ = some (Value.int .i64 t.states) ∧ w'.cell? ⟨n0, 1, none⟩ = some (Value.int .i64 t.initial) ∧ w'.cell? ⟨n0, 2, none⟩ = some lv ∧ w'.cell? ⟨n0, 3, none⟩ = some ev)
    (first | exact GDH17.out | exact GEH17.out | exact GMH18.out | exact GZH19.out | go_keep)
    (first
      | (go_at_call_of 6 (Value.agg #[Value.int .i64 t.states, Value.int .i64 t.initial, lv, ev]); refine Calls.mono (HTT.out _ hD17) ?_; rintro e w18 ⟨bb18, bc18, rfl, hb18, hc18⟩; have hq18 : Below w17.heap.size w17 w18 := hr17.trans (hb18.mono (by simp)); have GMH18 : Hid (w18.cell? ⟨k8, 0, none⟩ = some (Value.int .i64 t.states) ∧ w18.cell? ⟨k8, 1, none⟩ = some (Value.int .i64 t.initial) ∧ w18.cell? ⟨k8, 2, none⟩ = some (Value.slice (some ⟨b5, 0, none⟩) t.labels.length t.labels.length) ∧ w18.cell? ⟨k8, 3, none⟩ = some (Value.slice (some ⟨b6, 0, none⟩) t.edges.length t.edges.length) ∧ w18.cell? ⟨n0, 0, none⟩ = some (Value.int .i64 t.states) ∧ w18.cell? ⟨n0, 1, none⟩ = some (Value.int .i64 t.initial) ∧ w18.cell? ⟨n0, 2, none⟩ = some lv ∧ w18.cell? ⟨n0, 3, none⟩ = some ev) := ⟨(HX17.out.below hq18).cell 0 rfl, (HX17.out.below hq18).cell 1 rfl, (HX17.out.below hq18).cell 2 rfl, (HX17.out.below hq18).cell 3 rfl, ((HBX.out.below D17.out).below hq18).one.cell 0 rfl, ((HBX.out.below D17.out).below hq18).one.cell 1 rfl, ((HBX.out.below D17.out).below hq18).one.cell 2 rfl, ((HBX.out.below D17.out).below hq18).one.cell 3 rfl⟩)
      | (go_at_call 9; refine (eqLts_same _ _ 0 0 t _ (HCX17.out.below hq18).at hc18.at).mono ?_; rintro e w19 ⟨rfl, hb19⟩; have hq19 : Below w17.heap.size w17 w19 := hq18.trans (hb19.mono hq18.size); have GZH19 : Hid (w19.cell? ⟨k8, 0, none⟩ = some (Value.int .i64 t.states) ∧ w19.cell? ⟨k8, 1, none⟩ = some (Value.int .i64 t.initial) ∧ w19.cell? ⟨k8, 2, none⟩ = some (Value.slice (some ⟨b5, 0, none⟩) t.labels.length t.labels.length) ∧ w19.cell? ⟨k8, 3, none⟩ = some (Value.slice (some ⟨b6, 0, none⟩) t.edges.length t.edges.length) ∧ w19.cell? ⟨n0, 0, none⟩ = some (Value.int .i64 t.states) ∧ w19.cell? ⟨n0, 1, none⟩ = some (Value.int .i64 t.initial) ∧ w19.cell? ⟨n0, 2, none⟩ = some lv ∧ w19.cell? ⟨n0, 3, none⟩ = some ev) := ⟨(HX17.out.below hq19).cell 0 rfl, (HX17.out.below hq19).cell 1 rfl, (HX17.out.below hq19).cell 2 rfl, (HX17.out.below hq19).cell 3 rfl, ((HBX.out.below D17.out).below hq19).one.cell 0 rfl, ((HBX.out.below D17.out).below hq19).one.cell 1 rfl, ((HBX.out.below D17.out).below hq19).one.cell 2 rfl, ((HBX.out.below D17.out).below hq19).one.cell 3 rfl⟩))
  have HOG19 := Lib.hid (HOG17.out.below hq19)
  have E19 := Lib.hid (E17.out.trans (hq19.mono E17.out.size))
  have D19 := Lib.hid (D17.out.trans (hq19.mono D17.out.size))
  have HCX19 := Lib.hid (HCX17.out.below hq19)
  have HCY19 := Lib.hid (HCY17.out.below hq19)
  have HX19 := Lib.hid (HX17.out.below hq19)
  have HY19 := Lib.hid (HY17.out.below hq19)
  clear GDH17 GEH17 GMH18 GZH19 hr17 hD17 hb18 hc18 hb19 hq18 hq19
  go_wp2_with fail
  have hr19 : Below w19.heap.size w19 w19.drew := (Below.refl _ _).drew
  have GD19 : w19.drew.cell? ⟨k9, 0, none⟩ = some (Value.int .i64 p.states) ∧ w19.drew.cell? ⟨k9, 1, none⟩ = some (Value.int .i64 p.initial) ∧ w19.drew.cell? ⟨k9, 2, none⟩ = some (Value.slice (some ⟨b7, 0, none⟩) p.labels.length p.labels.length) ∧ w19.drew.cell? ⟨k9, 3, none⟩ = some (Value.slice (some ⟨b8, 0, none⟩) p.edges.length p.edges.length) ∧ w19.drew.cell? ⟨n0 + 1, 0, none⟩ = some (Value.int .i64 p.states) ∧ w19.drew.cell? ⟨n0 + 1, 1, none⟩ = some (Value.int .i64 p.initial) ∧ w19.drew.cell? ⟨n0 + 1, 2, none⟩ = some lv2 ∧ w19.drew.cell? ⟨n0 + 1, 3, none⟩ = some ev2 := ⟨(HY19.out.below hr19).cell 0 rfl, (HY19.out.below hr19).cell 1 rfl, (HY19.out.below hr19).cell 2 rfl, (HY19.out.below hr19).cell 3 rfl, ((HBX.out.below D19.out).below hr19).two.cell 0 rfl, ((HBX.out.below D19.out).below hr19).two.cell 1 rfl, ((HBX.out.below D19.out).below hr19).two.cell 2 rfl, ((HBX.out.below D19.out).below hr19).two.cell 3 rfl⟩
  have GDH19 := Lib.hid GD19
  have GE19 : w19.cell? ⟨k9, 0, none⟩ = some (Value.int .i64 p.states) ∧ w19.cell? ⟨k9, 1, none⟩ = some (Value.int .i64 p.initial) ∧ w19.cell? ⟨k9, 2, none⟩ = some (Value.slice (some ⟨b7, 0, none⟩) p.labels.length p.labels.length) ∧ w19.cell? ⟨k9, 3, none⟩ = some (Value.slice (some ⟨b8, 0, none⟩) p.edges.length p.edges.length) ∧ w19.cell? ⟨n0 + 1, 0, none⟩ = some (Value.int .i64 p.states) ∧ w19.cell? ⟨n0 + 1, 1, none⟩ = some (Value.int .i64 p.initial) ∧ w19.cell? ⟨n0 + 1, 2, none⟩ = some lv2 ∧ w19.cell? ⟨n0 + 1, 3, none⟩ = some ev2 := ⟨(HY19.out.below (Below.refl _ _)).cell 0 rfl, (HY19.out.below (Below.refl _ _)).cell 1 rfl, (HY19.out.below (Below.refl _ _)).cell 2 rfl, (HY19.out.below (Below.refl _ _)).cell 3 rfl, ((HBX.out.below D19.out).below (Below.refl _ _)).two.cell 0 rfl, ((HBX.out.below D19.out).below (Below.refl _ _)).two.cell 1 rfl, ((HBX.out.below D19.out).below (Below.refl _ _)).two.cell 2 rfl, ((HBX.out.below D19.out).below (Below.refl _ _)).two.cell 3 rfl⟩
  have GEH19 := Lib.hid GE19
  have hD19 : Below W1.heap.size W1 w19.drew := D19.out.drew
  clear GD19 GE19
  go_region_held3 (fun w' => w'.cell? ⟨k9, 0, none⟩ = some (Value.int .i64 p.states) ∧ w'.cell? ⟨k9, 1, none⟩ = some (Value.int .i64 p.initial) ∧ w'.cell? ⟨k9, 2, none⟩ = some (Value.slice (some ⟨b7, 0, none⟩) p.labels.length p.labels.length) ∧ w'.cell? ⟨k9, 3, none⟩ = some (Value.slice (some ⟨b8, 0, none⟩) p.edges.length p.edges.length) ∧ w'.cell? ⟨n0 + 1, 0, none⟩ = some (Value.int .i64 p.states) ∧ w'.cell? ⟨n0 + 1, 1, none⟩ = some (Value.int .i64 p.initial) ∧ w'.cell? ⟨n0 + 1, 2, none⟩ = some lv2 ∧ w'.cell? ⟨n0 + 1, 3, none⟩ = some ev2)
    (first | exact GDH19.out | exact GEH19.out | exact GMH20.out | exact GZH21.out | go_keep)
    (first
      | (go_at_call_of 6 (Value.agg #[Value.int .i64 p.states, Value.int .i64 p.initial, lv2, ev2]); refine Calls.mono (HTP.out _ hD19) ?_; rintro e w20 ⟨bb20, bc20, rfl, hb20, hc20⟩; have hq20 : Below w19.heap.size w19 w20 := hr19.trans (hb20.mono (by simp)); have GMH20 : Hid (w20.cell? ⟨k9, 0, none⟩ = some (Value.int .i64 p.states) ∧ w20.cell? ⟨k9, 1, none⟩ = some (Value.int .i64 p.initial) ∧ w20.cell? ⟨k9, 2, none⟩ = some (Value.slice (some ⟨b7, 0, none⟩) p.labels.length p.labels.length) ∧ w20.cell? ⟨k9, 3, none⟩ = some (Value.slice (some ⟨b8, 0, none⟩) p.edges.length p.edges.length) ∧ w20.cell? ⟨n0 + 1, 0, none⟩ = some (Value.int .i64 p.states) ∧ w20.cell? ⟨n0 + 1, 1, none⟩ = some (Value.int .i64 p.initial) ∧ w20.cell? ⟨n0 + 1, 2, none⟩ = some lv2 ∧ w20.cell? ⟨n0 + 1, 3, none⟩ = some ev2) := ⟨(HY19.out.below hq20).cell 0 rfl, (HY19.out.below hq20).cell 1 rfl, (HY19.out.below hq20).cell 2 rfl, (HY19.out.below hq20).cell 3 rfl, ((HBX.out.below D19.out).below hq20).two.cell 0 rfl, ((HBX.out.below D19.out).below hq20).two.cell 1 rfl, ((HBX.out.below D19.out).below hq20).two.cell 2 rfl, ((HBX.out.below D19.out).below hq20).two.cell 3 rfl⟩)
      | (go_at_call 9; refine (eqLts_same _ _ 0 0 p _ (HCY19.out.below hq20).at hc20.at).mono ?_; rintro e w21 ⟨rfl, hb21⟩; have hq21 : Below w19.heap.size w19 w21 := hq20.trans (hb21.mono hq20.size); have GZH21 : Hid (w21.cell? ⟨k9, 0, none⟩ = some (Value.int .i64 p.states) ∧ w21.cell? ⟨k9, 1, none⟩ = some (Value.int .i64 p.initial) ∧ w21.cell? ⟨k9, 2, none⟩ = some (Value.slice (some ⟨b7, 0, none⟩) p.labels.length p.labels.length) ∧ w21.cell? ⟨k9, 3, none⟩ = some (Value.slice (some ⟨b8, 0, none⟩) p.edges.length p.edges.length) ∧ w21.cell? ⟨n0 + 1, 0, none⟩ = some (Value.int .i64 p.states) ∧ w21.cell? ⟨n0 + 1, 1, none⟩ = some (Value.int .i64 p.initial) ∧ w21.cell? ⟨n0 + 1, 2, none⟩ = some lv2 ∧ w21.cell? ⟨n0 + 1, 3, none⟩ = some ev2) := ⟨(HY19.out.below hq21).cell 0 rfl, (HY19.out.below hq21).cell 1 rfl, (HY19.out.below hq21).cell 2 rfl, (HY19.out.below hq21).cell 3 rfl, ((HBX.out.below D19.out).below hq21).two.cell 0 rfl, ((HBX.out.below D19.out).below hq21).two.cell 1 rfl, ((HBX.out.below D19.out).below hq21).two.cell 2 rfl, ((HBX.out.below D19.out).below hq21).two.cell 3 rfl⟩))
  have HOG21 := Lib.hid (HOG19.out.below hq21)
  have E21 := Lib.hid (E19.out.trans (hq21.mono E19.out.size))
  have D21 := Lib.hid (D19.out.trans (hq21.mono D19.out.size))
  have HCX21 := Lib.hid (HCX19.out.below hq21)
  have HCY21 := Lib.hid (HCY19.out.below hq21)
  have HX21 := Lib.hid (HX19.out.below hq21)
  have HY21 := Lib.hid (HY19.out.below hq21)
  clear GDH19 GEH19 GMH20 GZH21 hr19 hD19 hb20 hc20 hb21 hq20 hq21
  have q0 := HX21.out.cell 0 rfl
  have q1 := HX21.out.cell 1 rfl
  have q2 := HX21.out.cell 2 rfl
  have q3 := HX21.out.cell 3 rfl
  have hk8 := HK8.out
  have hk9 := HK9.out
  have hz13 := HZ13.out
  have hz14 := HZ14.out
  have hz15 := HZ15.out
  have hlen := HLEN.out
  have hcx := HCX21.out
  have hcy := HCY21.out
  have hb6 := HB6.out
  have hb8 := HB8.out
  have e12s := E12.out.size
  have e13s := E13.out.size
  have e15s := E15.out.size
  have e21s := E21.out.size
  have d11s := D11.out.size
  have hkk : k8 < w21.heap.size := HX21.out.lt
  have hkk9 : k9 < w21.heap.size := HY21.out.lt
  have hsz15 : w15.heap.size ≤ w21.heap.size := by omega
  obtain ⟨K1, hK1⟩ : ∃ K1 : Int, K1 = 1 + (t.labels.length : Int) + 3 * (t.edges.length : Int) := ⟨_, rfl⟩
  obtain ⟨K2, hK2⟩ : ∃ K2 : Int, K2 = K1 + (p.labels.length : Int) + 3 * (p.edges.length : Int) := ⟨_, rfl⟩
  have hK10 : 0 ≤ K1 := by omega
  have hK20 : 0 ≤ K2 := by omega
  have HM1 := Lib.hid (markLts_any wS.heap.size k8 b5 b6 t.labels.length t.edges.length t.states t.initial _ _ 1 w21 (by decide) (by omega) hcx.h1 (by have := hcx.h2; omega) (by have := hcx.h1; have := hcx.h2; omega) hb6 (by omega) (by have := hcx.h2; omega) hcx.o1 (own_lower hcx.o2 (by have := hcx.h1; have := hcx.h2; omega)))
  rw [← hK1] at HM1
  have HARITH : Hid (K1 + (p.labels.length : Int) + 3 * (p.edges.length : Int) ≤ 1000000000) := by unfold Hid; omega
  have HK2 := Lib.hid hK2
  have HF1 : Hid (wS.heap.size ≤ w21.heap.size) := e21s
  have HF2 : Hid (W1.heap.size ≤ wS.heap.size) := d11s
  have HF3 : Hid (k8 ≤ k9) := by unfold Hid; omega
  have HF4 : Hid (k8 ≤ w13.heap.size) := by unfold Hid; omega
  have HF5 : Hid (k9 ≤ w15.heap.size) := by unfold Hid; omega
  have HF6 : Hid (wS.heap.size ≤ w13.heap.size) := e13s
  have HF7 : Hid (k9 ≤ w21.heap.size) := by unfold Hid; omega
  have HF8 : Hid (w13.heap.size ≤ w15.heap.size) := by unfold Hid; omega
  have HF9 : Hid (w15.heap.size ≤ w21.heap.size) := hsz15
  clear hk8 hk9 hz13 hz14 hz15 hlen hcx hcy hb6 hb8 e12s e13s e15s e21s d11s hkk hkk9 hsz15 hK1 hK2
  go_wp2_with fail
  refine Calls.mono HM1.out ?_
  rintro e w22 ⟨rfl, ht22⟩
  have HS22 : Hid (w21.heap.size ≤ w22.heap.size) := ht22.size
  have hb22 : Below wS.heap.size w21 w22 := below_turns ht22 HF1.out
  have E22 := Lib.hid (E21.out.trans hb22)
  have D22 := Lib.hid (D21.out.trans (hb22.mono HF2.out))
  have HY22 := Lib.hid (HY21.out.turns ht22 (.inr HF3.out))
  have HCY22 := Lib.hid (HCY21.out.turns ht22 HF4.out)
  have HOG22 := Lib.hid (HOG21.out.turns ht22 (Nat.le_trans HF3.out HF5.out))
  clear q0 q1 q2 q3 HM1 hb22 ht22
  have q0 := HY22.out.cell 0 rfl
  have q1 := HY22.out.cell 1 rfl
  have q2 := HY22.out.cell 2 rfl
  have q3 := HY22.out.cell 3 rfl
  have hcy := HCY22.out
  have HM2 := Lib.hid (markLts_any w13.heap.size k9 b7 b8 p.labels.length p.edges.length p.states p.initial _ _ K1 w22 hK10 HARITH.out hcy.h1 (by have := hcy.h2; have := HB8.out; omega) (by have := hcy.h1; have := hcy.h2; omega) HB8.out (Nat.le_trans HF7.out HS22.out) (by have := hcy.h2; omega) hcy.o1 (own_lower hcy.o2 (by have := hcy.h1; have := hcy.h2; omega)))
  rw [← HK2.out] at HM2
  clear hcy
  go_wp2_with fail
  refine Calls.mono HM2.out ?_
  rintro e w23 ⟨rfl, ht23⟩
  have hb23 : Below w13.heap.size w22 w23 := below_turns ht23 (Nat.le_trans HF8.out (Nat.le_trans HF9.out HS22.out))
  have HS23 : Hid (w15.heap.size ≤ w23.heap.size) := Nat.le_trans (Nat.le_trans HF9.out HS22.out) ht23.size
  have E23 := Lib.hid (E22.out.trans (hb23.mono HF6.out))
  have D23 := Lib.hid (D22.out.trans (hb23.mono (Nat.le_trans HF2.out HF6.out)))
  have HOG23 := Lib.hid (HOG22.out.turns ht23 HF5.out)
  clear q0 q1 q2 q3 HM2 hb23 ht23
  go_wp2_with fail
  refine (eqInt64SS_same vG vSa _ _ xss _ HOG23.out.at (HSV.out.below E23.out)).mono ?_
  rintro e w24 ⟨rfl, hb24⟩
  have HOG24 := Lib.hid (HOG23.out.below hb24)
  have E24 := Lib.hid (E23.out.trans (hb24.mono E23.out.size))
  have D24 := Lib.hid (D23.out.trans (hb24.mono D23.out.size))
  have HS24 : Hid (w15.heap.size ≤ w24.heap.size) := Nat.le_trans HS23.out hb24.size
  clear hb24
  obtain ⟨T, hT⟩ : ∃ T, T = total xss := ⟨_, rfl⟩
  have hT2 := HTOT.out
  rw [← hT] at hT2
  have HMK := Lib.hid (markInt64SS_any w15.heap.size vG vsG xss 1 w24 (by decide) (by omega) HS24.out HOG24.out)
  rw [← hT] at HMK
  have HTT2 := Lib.hid hT
  clear hT
  go_wp2_with fail
  refine Calls.mono HMK.out ?_
  rintro e w25 ⟨rfl, hb25, hog25⟩
  have HOG25 := Lib.hid hog25
  have E25 := Lib.hid (E24.out.trans (hb25.mono (Nat.le_trans HF6.out HF8.out)))
  have D25 := Lib.hid (D24.out.trans (hb25.mono (Nat.le_trans HF2.out (Nat.le_trans HF6.out HF8.out))))
  clear hb25 hog25 HMK
  have HHELD : Hid (∀ w', Below w25.heap.size w25 w' → Calls Tryz.prog 12 #[vG, .int .i64 1] w' fun e w'' => e = .returned (.int .i64 (1 + (T : Int))) ∧ w' = w'') := fun w' hb => by
    rw [HTT2.out]
    exact heldInt64SS_same vG _ xss 1 w' (by decide) (by rw [← HTT2.out]; omega) (HOG25.out.below hb).at
  go_wp2_with fail
  refine Calls.mono (HHELD.out _ (Below.refl _ _)) ?_
  rintro e w' ⟨rfl, rfl⟩
  go_wp2_with fail
  have hDb : Below W1.heap.size W1 w25.drew := D25.out.drew
  have BDb := Lib.hid (HBX.out.below hDb)
  have BEb := Lib.hid (HBX.out.below D25.out)
  go_region_held3 (fun w' => w'.cell? ⟨n0, 0, none⟩ = some (.int .i64 t.states) ∧ w'.cell? ⟨n0, 1, none⟩ = some (.int .i64 t.initial) ∧ w'.cell? ⟨n0, 2, none⟩ = some (lv) ∧ w'.cell? ⟨n0, 3, none⟩ = some (ev) ∧ w'.cell? ⟨n0 + 1, 0, none⟩ = some (.int .i64 p.states) ∧ w'.cell? ⟨n0 + 1, 1, none⟩ = some (.int .i64 p.initial) ∧ w'.cell? ⟨n0 + 1, 2, none⟩ = some (lv2) ∧ w'.cell? ⟨n0 + 1, 3, none⟩ = some (ev2))
    (first
      | exact BDb.out.cells
      | exact BEb.out.cells
      | exact B9b.out.cells
      | exact B10b.out.cells
      | exact B11b.out.cells
      | go_keep)
    (first
      | (go_at_call_of 6 (Value.agg #[Value.int .i64 t.states, Value.int .i64 t.initial, lv, ev]); refine Calls.mono (HTT.out _ hDb) ?_; rintro e w9b ⟨b1b, b2b, rfl, hb9b, hc9b⟩; have hD9b : Below W1.heap.size W1 w9b := hDb.trans (hb9b.mono hDb.size); have B9b := Lib.hid (HBX.out.below hD9b))
      | (go_at_call_of 6 (Value.agg #[Value.int .i64 p.states, Value.int .i64 p.initial, lv2, ev2]); refine Calls.mono (HTP.out _ hD9b) ?_; rintro e w10b ⟨b3b, b4b, rfl, hb10b, hc10b⟩; have hD10b : Below W1.heap.size W1 w10b := hD9b.trans (hb10b.mono hD9b.size); have B10b := Lib.hid (HBX.out.below hD10b))
      | (go_at_call 7; refine Calls.mono (implCanStay_all 0 t p _ _ _ _ _ HSH1.out HSH2.out (hc9b.labels.below hb10b) (hc9b.edges.below hb10b) hc10b.labels hc10b.edges (HG.out.below hD10b)) ?_; rintro e w11b ⟨vSb, vsSb, rfl, hb11b, hoSb⟩; have hD11b : Below W1.heap.size W1 w11b := hD10b.trans (hb11b.mono hD10b.size); have B11b := Lib.hid (HBX.out.below hD11b)))
  have hall : Below w25.heap.size w25 w11b := ((((Below.refl w25.heap.size w25).drew).trans (hb9b.mono (by simp))).trans (hb10b.mono (Nat.le_trans (by simp) hb9b.size))).trans (hb11b.mono (Nat.le_trans (Nat.le_trans (by simp) hb9b.size) hb10b.size))
  have hSV2 := hoSb.at
  rw [← HXSS.out] at hSV2
  have HSV2 := Lib.hid hSV2
  have HALL := Lib.hid hall
  have E26 := Lib.hid (E25.out.trans (hall.mono E25.out.size))
  have D26 := Lib.hid (D25.out.trans (hall.mono D25.out.size))
  clear hSV2 hall hoSb hb11b hb10b hb9b hc9b hc10b hD9b hD10b hD11b hDb BDb BEb B9b B10b B11b
  go_wp2_with fail
  refine (eqInt64SS_same vSb vSa _ _ xss _ HSV2.out (HSV.out.below E26.out)).mono ?_
  rintro e w27 ⟨rfl, hb27⟩
  have D27 := Lib.hid (D26.out.trans (hb27.mono D26.out.size))
  have HALL2 := Lib.hid (HALL.out.trans (hb27.mono HALL.out.size))
  clear hb27
  go_wp2_with fail
  refine Calls.mono (HHELD.out _ HALL2.out) ?_
  rintro e w' ⟨rfl, rfl⟩
  go_wp2_with fail
  go_ret
  exact ⟨rfl, HB1.out.trans (D27.out.mono HB1.out.size)⟩

end Go.Proofs.YtaccfpacemhaaaaGreatDoor
