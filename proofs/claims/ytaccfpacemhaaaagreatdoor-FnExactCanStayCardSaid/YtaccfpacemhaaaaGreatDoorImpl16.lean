/-
  What the implementation's moves and any compute over the edges from a state.
-/
import Derived.Test.YtaccfpacemhaaaaGreatDoorImpl15
import Derived.Test.YtaccfpacemhaaaaGreatDoorTail
namespace Go.Proofs.YtaccfpacemhaaaaGreatDoor
open Go Go.RowKit

theorem has_idx {p : Lts} {P : Nat} (hP : (P : Int) = p.states) (c : List Bool) (d : Nat) (q : Int) : (decide (0 ≤ q) && c.getD (d * P + q.toNat) false) = (decide (0 ≤ q) && c.getD (idx p d q) false) := by
  by_cases h : 0 ≤ q
  · obtain ⟨y, rfl⟩ : ∃ y : Nat, q = y := ⟨q.toNat, by omega⟩
    rw [idx_nat hP, Int.toNat_natCast]
  · rw [decide_eq_false h, Bool.false_and, Bool.false_and]

theorem any_next {t p : Lts} {c : List Bool} {l : List Edge} {q : Int} {j : Nat} (hj : j < l.length) {d : Nat} (hd : (d : Int) = l[j].dst) {P : Nat} (hP : (P : Int) = p.states) :
    anyTo t p c l q (j + 1) = (anyTo t p c l q j || (decide (0 ≤ toState t p l[j] q) && c.getD (d * P + (toState t p l[j] q).toNat) false)) := by
  rw [anyTo_succ _ _ _ _ _ _ hj, has_idx hP, hd]

/-- What holds at the head of the loop of moves. -/
structure MoveInv (w0 : World) (B0 fb ib bm : Nat) (cells : List Value) (b : Bool) (v : Value) (l : List Edge) (wr : World) : Prop where
  below : Below w0.heap.size w0 wr
  obs : Blk wr B0 cells 52
  found : Blk wr fb [.bool b] 4
  is : Blk wr ib [.func (.func 53) #[] #[.pointer (some ⟨bm, 0, none⟩)]] 71
  own : wr.ownsRow (B0 + 1) 66 3 v l.length (l.flatMap encE)

theorem MoveInv.later {w0 wr w' : World} {B0 fb ib bm : Nat} {cells : List Value} {b : Bool} {v : Value} {l : List Edge} (h : MoveInv w0 B0 fb ib bm cells b v l wr) (hb : Below wr.heap.size wr w') : MoveInv w0 B0 fb ib bm cells b v l w' :=
  ⟨h.below.trans (hb.mono h.below.size), h.obs.below hb, h.found.below hb, h.is.below hb, owns_below h.own hb⟩
theorem MoveInv.found' {w0 wr w' : World} {B0 fb ib bm : Nat} {cells : List Value} {b b2 : Bool} {v : Value} {l : List Edge} (h : MoveInv w0 B0 fb ib bm cells b v l wr) (hf : w0.heap.size ≤ fb) (h1 : fb < B0) (h2 : fb ≠ ib)
    (e : w' = wr.setCell ⟨fb, 0, none⟩ (.bool b2)) : MoveInv w0 B0 fb ib bm cells b2 v l w' := by
  subst e
  refine ⟨h.below.setCell hf _, h.obs.setOther _ _ (by show B0 ≠ fb; omega), h.found.set 0 _, h.is.setOther _ _ (fun e => h2 e.symm), owns_setOther h.own _ _ ?_⟩
  intro e
  have := (h.own.lt _ e).1
  simp at this
  omega

set_option maxRecDepth 100000 in
set_option maxHeartbeats 4000000 in
theorem moves_any (lo bm fb ib S P : Nat) (c : List Bool) (g : Nat) (gs : List Nat) (t p : Lts) (lv ev lv2 ev2 : Value) (x q : Int) (w0 w : World) (hvt : Valid t) (hvp : Valid p) (hsp : Single p) (hS : (S : Int) = t.states) (hP : (P : Int) = p.states)
    (hs1 : SliceK 1 encS lo w0 lv t.labels) (hs2 : SliceK 3 encE lo w0 ev t.edges) (hq1 : SliceK 1 encS lo w0 lv2 p.labels) (hq2 : SliceK 3 encE lo w0 ev2 p.edges) (hm : Mat w0 bm S P c g gs)
    (hb : Below w0.heap.size w0 w) (hfb : Blk w fb [.bool false] 4) (hib : Blk w ib [.func (.func 53) #[] #[.pointer (some ⟨bm, 0, none⟩)]] 71) (hf : w0.heap.size ≤ fb) (hi : w0.heap.size ≤ ib) (hne : fb ≠ ib)
    (h0 : 0 ≤ q) (h1 : q < P) :
    Calls Tryz.prog 54 #[.agg #[.int .i64 t.states, .int .i64 t.initial, lv, ev, .int .i64 p.states, .int .i64 p.initial, lv2, ev2], .int .i64 x, .int .i64 q, .func (.func 55) #[] #[.pointer (some ⟨fb, 0, none⟩), .pointer (some ⟨ib, 0, none⟩)]] w
      fun e w' => e = .returned (.tuple #[]) ∧ Below w0.heap.size w0 w' ∧ Blk w' fb [.bool (goesB t p c (outOf t x) q)] 4 := by
  have HS1 := Lib.hid hs1
  have HS2 := Lib.hid hs2
  have HQ1 := Lib.hid hq1
  have HQ2 := Lib.hid hq2
  have HM := Lib.hid hm
  have HB := Lib.hid hb
  have VT := Lib.hid hvt
  have VP := Lib.hid hvp
  have SP := Lib.hid hsp
  have HNE := Lib.hid hne
  have HSS := Lib.hid hS
  have HPP := Lib.hid hP
  have hz := hb.size
  have hfz := hfb.lt
  have hiz := hib.lt
  have hB0 : Below w0.heap.size w0 (w.alloc (.cells #[.int .i64 t.states, .int .i64 t.initial, lv, ev, .int .i64 p.states, .int .i64 p.initial, lv2, ev2] 52)) := hb.alloc hz _
  have HBX := Lib.hid (Blk.new w [.int .i64 t.states, .int .i64 t.initial, lv, ev, .int .i64 p.states, .int .i64 p.initial, lv2, ev2] 52)
  have HFB := Lib.hid (hfb.alloc (.cells #[.int .i64 t.states, .int .i64 t.initial, lv, ev, .int .i64 p.states, .int .i64 p.initial, lv2, ev2] 52))
  have HIB := Lib.hid (hib.alloc (.cells #[.int .i64 t.states, .int .i64 t.initial, lv, ev, .int .i64 p.states, .int .i64 p.initial, lv2, ev2] 52))
  have HC := Lib.hid (out_any lo t lv ev x _ (by have := hvt.most; omega) (hs2.below hB0))
  have HB0 := Lib.hid hB0
  clear hs1 hs2 hq1 hq2 hm hb hvt hvp hsp hne hB0 hfb hib hS hP
  go_enter Tryz.func54, Tryz.ntmps54
  go_wp2_with fail
  refine Calls.mono HC.out ?_
  rintro e w1 ⟨v, rfl, hb1, ho1⟩
  have HBX1 := Lib.hid (HBX.out.below hb1)
  have HFB1 := Lib.hid (HFB.out.below hb1)
  have HIB1 := Lib.hid (HIB.out.below hb1)
  have HB1 := Lib.hid (HB0.out.trans (hb1.mono HB0.out.size))
  have hw1 : w.heap.size < w1.heap.size := by have := hb1.size; simp at this; omega
  have hll : (outOf t x).length ≤ 300 := by unfold outOf; exact Nat.le_trans (List.length_filter_le _ _) VT.out.most
  have HOK : Hid (∀ e ∈ outOf t x, EdgeOk t e) := outOf_ok VT.out x
  have HGO : Hid (anyTo t p c (outOf t x) q (outOf t x).length = goesB t p c (outOf t x) q) := anyTo_all t p c _ q
  obtain ⟨l, hl⟩ : ∃ l, l = outOf t x := ⟨_, rfl⟩
  rw [← hl] at ho1 hll HOK HGO
  simp only [← hl]
  have HO1 : Hid (w1.ownsRow (w.heap.size + 1) 66 3 v l.length (l.flatMap encE)) := by unfold Hid; simpa using ho1
  have HLL := Lib.hid hl
  clear hb1 ho1 hl HBX HFB HIB HB0 HC
  obtain ⟨av, cv, rfl, hc1, hc2⟩ := owns_slice HO1.out
  go_wp2_with fail
  have HI1 : Hid (MoveInv w0 w.heap.size fb ib bm [.int .i64 t.states, .int .i64 t.initial, lv, ev, .int .i64 p.states, .int .i64 p.initial, lv2, ev2] false (.slice av l.length cv) l w1) := ⟨HB1.out, HBX1.out, HFB1.out, HIB1.out, HO1.out⟩
  clear HB1 HBX1 HFB1 HIB1 HO1
  go_loopw [15] (fun i wr => ∃ j : Nat, j ≤ l.length ∧ i = .int .i64 j ∧ MoveInv w0 w.heap.size fb ib bm [.int .i64 t.states, .int .i64 t.initial, lv, ev, .int .i64 p.states, .int .i64 p.initial, lv2, ev2] (anyTo t p c l q j) (.slice av l.length cv) l wr) (fun i _ => l.length - (intOf i).toNat)
  case atStart => exact ⟨0, Nat.zero_le _, rfl, HI1.out⟩
  case round =>
    obtain ⟨j, hj, rfl, hinv⟩ := hrel
    clear HI1
    have HI := Lib.hid hinv
    have hsz := hinv.below.size
    have hxl := hinv.obs.lt
    have hfl := hinv.found.lt
    have hil := hinv.is.lt
    clear hinv
    by_cases hlt : j < l.length
    · obtain ⟨a', c', e9, -, -, hrow⟩ := SliceK.of_owns encE_len rfl HI.out.own
      simp only [Value.slice.injEq, true_and] at e9
      obtain ⟨rfl, rfl⟩ := e9
      obtain ⟨be, oe, rfl, -, hbe, e1, e2, e3⟩ := hrow.edge hlt
      obtain ⟨e, hee⟩ : ∃ e, e = l[j] := ⟨_, rfl⟩
      have hek : EdgeOk t e := by rw [hee]; exact HOK.out _ (List.getElem_mem _)
      rw [← hee] at e1 e2 e3
      obtain ⟨d, hd⟩ : ∃ d : Nat, (d : Int) = e.dst := ⟨e.dst.toNat, by have := hek.d0; omega⟩
      have hdS : d < S := by have := hek.d1; rw [← HSS.out] at this; omega
      have HNX := Lib.hid (any_next (t := t) (c := c) (q := q) hlt (hd.trans (by rw [hee])) HPP.out)
      rw [← hee] at HNX
      rw [← hd] at e3
      obtain ⟨hll2, hla⟩ := labAt_idx hek
      have hl0 : ((e.lab.toNat : Nat) : Int) = e.lab := by have := hek.l0; omega
      have hl1 := hek.l1
      obtain ⟨m, hm⟩ : ∃ m, m = e.lab.toNat := ⟨_, rfl⟩
      have hmt : m < t.labels.length := by omega
      have HLA : Hid (labAt t e = t.labels[m]) := by unfold Hid; subst hm; exact hla
      rw [← hm] at hl0
      have HEE := Lib.hid hee
      rw [← hl0] at e2
      obtain ⟨b, hbb⟩ : ∃ b, anyTo t p c l q j = b := ⟨_, rfl⟩
      rw [hbb] at HI HNX
      have HA := Lib.hid (HI.out.later (box_below wr #[.int .i64 e.src, .int .i64 m, .int .i64 d] 66))
      have HL0 := Lib.hid hl0
      clear hek hee hbb hla hd hll2 hl1 hm hl0
      cases g1 : ((m : Int) == 0)
      · have hts : Hid (toState t p e q = goTo p q (labAt t e)) := by
          unfold Hid toState
          rw [if_neg]
          rw [← HL0.out]
          simpa using g1
        obtain ⟨al, cl, rfl, hal1, hal2, hlr⟩ := HS1.out
        obtain ⟨bl, ol, rfl, -, hbl, c1⟩ := (hlr.below HI.out.below).one hmt
        simp only [encS, List.getElem?_cons_zero] at c1
        rw [← HLA.out] at c1
        have hmi : (m : Int) < (t.labels.length : Int) := by omega
        obtain ⟨WE, hWE⟩ : ∃ WE, WE = wr.alloc (.cells #[.int .i64 e.src, .int .i64 m, .int .i64 d] 66) := ⟨_, rfl⟩
        have k1 : WE.cell? ⟨wr.heap.size, 1, none⟩ = some (.int .i64 m) := by rw [hWE]; simp
        have k2 : WE.cell? ⟨wr.heap.size, 2, none⟩ = some (.int .i64 d) := by rw [hWE]; simp
        have c2 : WE.cell? ⟨bl, ol + m, none⟩ = some (.string (labAt t e)) := by rw [hWE]; exact keeps (box_below _ _ _) hbl c1
        rw [← hWE] at HA
        have x2 := HA.out.obs.cell 2 rfl
        have x4 := HA.out.obs.cell 4 rfl
        have x5 := HA.out.obs.cell 5 rfl
        have x6 := HA.out.obs.cell 6 rfl
        have x7 := HA.out.obs.cell 7 rfl
        have HWE := Lib.hid hWE
        clear hWE hlr hrow c1
        go_wp2_with fail
        rw [← HWE.out]
        clear HWE e1 e2 e3
        have HQ1E := Lib.hid (HQ1.out.below HA.out.below)
        have HQ2E := Lib.hid (HQ2.out.below HA.out.below)
        have hBE := HA.out.obs.lt
        replace k1 := later_cell (World.block_lt_of_cell? _ _ k1) k1
        replace k2 := later_cell (World.block_lt_of_cell? _ _ k2) k2
        replace c2 := later_cell (World.block_lt_of_cell? _ _ c2) c2
        replace x2 := later_cell hBE x2
        replace x4 := later_cell hBE x4
        replace x5 := later_cell hBE x5
        replace x6 := later_cell hBE x6
        replace x7 := later_cell hBE x7
        refine wp_region_later_tail 14 (by kernel_rfl) (by kernel_rfl) ?_
        simp only [List.take_succ_cons, List.take_zero, List.drop_succ_cons, List.drop_zero]
        repeat (go_big_quiet_step ((go_at_call 61; exact later_call (step_any lo p _ _ q _ _ VP.out SP.out (HQ1E.out.below (Later.h _)) (HQ2E.out.below (Later.h _))))))
        refine wpQuiet_nil ?_
        intro _ hw9
        obtain ⟨nl, hw8⟩ := hw9
        subst hw8
        clear k1 k2 c2 x2 x4 x5 x6 x7
        have HA2 := Lib.hid (HA.out.later nl.h)
        have hgr := goTo_range VP.out q (labAt t e)
        have hgp : goTo p q (labAt t e) < P := by rw [HPP.out]; exact hgr.2
        go_wp2_with fail
        refine (any1_any bm fb ib S P c g gs d _ b _ (HM.out.below HA2.out.below) hdS hgp HA2.out.found (HA2.out.is.cell 0 rfl)).mono ?_
        rintro e' w2 ⟨rfl, hw2⟩
        have HI2 := Lib.hid (HA2.out.found' hf hfz HNE.out hw2)
        rw [hts.out] at HNX
        rw [← HNX.out] at HI2
        clear hw2 hgr hgp
        go_wp2_with fail
        go_roundw
        case rel => exact ⟨j + 1, by omega, by go_num, HI2.out⟩
        case measure => simp [intOf]; omega
      · have hts : Hid (toState t p e q = q) := by
          unfold Hid toState
          rw [if_pos]
          rw [← HL0.out]
          simpa using g1
        clear hrow
        go_wp2_with fail
        refine (any1_any bm fb ib S P c g gs d q b _ (HM.out.below HA.out.below) hdS h1 HA.out.found (HA.out.is.cell 0 rfl)).mono ?_
        rintro e' w2 ⟨rfl, hw2⟩
        have HI2 := Lib.hid (HA.out.found' hf hfz HNE.out hw2)
        rw [hts.out] at HNX
        rw [← HNX.out] at HI2
        clear hw2
        go_wp2_with fail
        go_roundw
        case rel => exact ⟨j + 1, by omega, by go_num, HI2.out⟩
        case measure => simp [intOf]; omega
    · obtain rfl : j = l.length := by omega
      go_wp2_with fail
      go_end0
      exact ⟨rfl, HI.out.below, by have := HI.out.found; rw [HGO.out] at this; rw [← HLL.out]; exact this⟩

end Go.Proofs.YtaccfpacemhaaaaGreatDoor
