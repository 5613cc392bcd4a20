/-
  What the implementation's settle computes for the pairs that can stay.
-/
import Derived.Test.YtaccfpacemhaaaaGreatDoorImpl18
import Derived.Deep.RegionHeld3
namespace Go.Proofs.YtaccfpacemhaaaaGreatDoor
open Go Go.RowKit

def rowV (P b : Nat) : Value := .slice (some ⟨b, 0, none⟩) P P

/-- The rows that are built so far. -/
structure BuildInv (w : World) (g bm S P : Nat) (gs : List Nat) (wr : World) : Prop where
  below : Below w.heap.size w wr
  box : Blk wr bm [.slice (some ⟨g, 0, none⟩) S S] 50
  rows : Blk wr g (gs.map (rowV P) ++ List.replicate (S - gs.length) (.slice none 0 0)) 44
  nodup : gs.Nodup
  own : ∀ x ∈ gs, w.heap.size ≤ x
  row : ∀ x ∈ gs, Blk wr x (List.replicate P (.bool true)) 4

theorem BuildInv.next {w wr W w3 : World} {g bm S P : Nat} {gs : List Nat} (h : BuildInv w g bm S P gs wr) (hk : gs.length < S) (hg : w.heap.size ≤ g) (hW : Below wr.heap.size wr W) (h3 : Below W.heap.size W w3) (hr : Blk w3 W.heap.size (List.replicate P (.bool true)) 4) :
    BuildInv w g bm S P (gs ++ [W.heap.size]) (w3.setCell ⟨g, gs.length, none⟩ (rowV P W.heap.size)) := by
  have hwr3 : Below wr.heap.size wr w3 := hW.trans (h3.mono hW.size)
  have hgl := h.rows.lt
  have hbl := h.box.lt
  have hnb : wr.heap.size ≤ W.heap.size := hW.size
  have hgb : bm ≠ g := by
    intro e
    have h1 := h.box
    have h2 := h.rows
    unfold Blk at h1 h2
    rw [e, h2] at h1
    simp at h1
  refine ⟨(h.below.trans (hwr3.mono h.below.size)).setCell hg _, (h.box.below hwr3).setOther _ _ hgb, ?_, ?_, ?_, ?_⟩
  · have := (h.rows.below hwr3).set gs.length (rowV P W.heap.size)
    rw [List.set_append_right _ _ (by simp), List.length_map, Nat.sub_self, show S - gs.length = (S - (gs.length + 1)) + 1 from by omega, List.replicate_succ, List.set_cons_zero] at this
    rw [List.map_append, List.append_assoc, List.length_append]
    exact this
  · rw [List.nodup_append]
    refine ⟨h.nodup, by simp, fun a ha b hb => ?_⟩
    simp at hb
    subst hb
    have := (h.row a ha).lt
    omega
  · intro x hx
    rcases List.mem_append.1 hx with hx | hx
    · exact h.own x hx
    · simp at hx
      subst hx
      have := h.below.size
      omega
  · intro x hx
    rcases List.mem_append.1 hx with hx | hx
    · have hxl := (h.row x hx).lt
      refine ((h.row x hx).below hwr3).setOther _ _ ?_
      intro e
      have e : x = g := e
      have h1 := h.row x hx
      have h2 := h.rows
      unfold Blk at h1 h2
      rw [e, h2] at h1
      simp at h1
    · simp at hx
      subst hx
      exact hr.setOther _ _ (by show W.heap.size ≠ g; omega)

theorem BuildInv.mat {w wr : World} {g bm S P : Nat} {gs : List Nat} (h : BuildInv w g bm S P gs wr) (hk : gs.length = S) : Mat wr bm S P (List.replicate (S * P) true) g gs := by
  refine ⟨h.box, ?_, hk, h.nodup, by simp, fun x hx => ?_⟩
  · have := h.rows
    rw [hk, Nat.sub_self, List.replicate_zero, List.append_nil] at this
    exact this
  · have h1 := h.row gs[x] (List.getElem_mem _)
    have hp : x * P + P ≤ S * P := by
      have := Nat.mul_le_mul_right P (show x + 1 ≤ S by omega)
      rw [Nat.succ_mul] at this
      exact this
    rw [List.drop_replicate, List.take_replicate, Nat.min_eq_left (by omega), List.map_replicate]
    exact h1

/-- The matrix at which the sweeps come to rest. -/
def MadeMat (t p : Lts) (S P : Nat) (w : World) (e : Ending) (w' : World) : Prop :=
  ∃ (c : List Bool) (bm g : Nat) (gs : List Nat), e = .returned (.slice (some ⟨g, 0, none⟩) S S) ∧ Below w.heap.size w w' ∧ Mat w' bm S P c g gs ∧ Rest t p (List.replicate (S * P) true) c

structure SweepRel (S P bm g : Nat) (gs : List Nat) (w wr : World) (c0 c : List Bool) (b : Bool) : Prop where
  less : Less c0 c b
  below : Below w.heap.size w wr
  mat : Mat wr bm S P c g gs

structure RoundRel (t p : Lts) (S P bm g : Nat) (gs : List Nat) (w wr : World) (gk : Nat) (b : Bool) (c : List Bool) : Prop where
  iter : ∃ n, c = sweeps t p n (List.replicate (S * P) true)
  rest : b = false → sweepB t p c = c
  left : 2 * c.count true + b.toNat ≤ gk
  below : Below w.heap.size w wr
  mat : Mat wr bm S P c g gs

theorem cell_set_other {w : World} {p : Addr} {u : Value} {b o : Nat} (h : b ≠ p.block) : (w.setCell p u).cell? ⟨b, o, none⟩ = w.cell? ⟨b, o, none⟩ :=
  World.cell?_of_block (heap_setCell_other w p b u h)

theorem BuildInv.apart {w wr : World} {g bm S P : Nat} {gs : List Nat} (h : BuildInv w g bm S P gs wr) : bm ≠ g := by
  intro e
  have h1 := h.box
  have h2 := h.rows
  unfold Blk at h1 h2
  rw [e, h2] at h1
  simp at h1

theorem info_bools : (Tryz.prog.info? 44).map (fun i => (i.zero, i.size, i.bytes)) = some (some (.slice none 0 0), 1, 24) := by kernel_rfl

set_option maxRecDepth 100000 in
set_option maxHeartbeats 4000000 in
theorem settle_any (lo ob S P : Nat) (t p : Lts) (lv ev lv2 ev2 : Value) (w : World) (hO : Both lo S P t p lv ev lv2 ev2 w)
    (hob : Blk w ob [.int .i64 t.states, .int .i64 t.initial, lv, ev, .int .i64 p.states, .int .i64 p.initial, lv2, ev2] 52) :
    Calls Tryz.prog 37 #[.agg #[.int .i64 t.states, .int .i64 t.initial, lv, ev, .int .i64 p.states, .int .i64 p.initial, lv2, ev2], .bool true, .func (.func 38) #[] #[.pointer (some ⟨ob, 0, none⟩)]] w (MadeMat t p S P w) := by
  have hS1 : 1 ≤ S := by have := hO.vt.st0; have := hO.hS; omega
  have hS2 : S ≤ 40 := by have := hO.vt.st1; have := hO.hS; omega
  have hP1 : 1 ≤ P := by have := hO.vp.st0; have := hO.hP; omega
  have hP2 : P ≤ 40 := by have := hO.vp.st1; have := hO.hP; omega
  have HOO := Lib.hid hO
  have HOB := Lib.hid hob
  have hobl := hob.lt
  have hS := hO.hS
  have hP := hO.hP
  rw [← hS, ← hP]
  have HSS := Lib.hid hS
  have HPP := Lib.hid hP
  obtain ⟨i0, hi, hz0, hz1, hz2⟩ := info_parts info_bools
  obtain ⟨w1, hw1⟩ : ∃ w1, w1 = w.alloc (.cells #[.int .i64 S, .int .i64 t.initial, lv, ev, .int .i64 P, .int .i64 p.initial, lv2, ev2] 52) := ⟨_, rfl⟩
  have hB1 : Below w.heap.size w w1 := by rw [hw1]; exact box_below _ _ _
  have hz1' : w1.heap.size = w.heap.size + 1 := by rw [hw1]; simp
  have hbx : Blk w1 w.heap.size [.int .i64 S, .int .i64 t.initial, lv, ev, .int .i64 P, .int .i64 p.initial, lv2, ev2] 52 := by rw [hw1]; exact Blk.new w _ _
  have x0 := hbx.cell 0 rfl
  have HW1 := Lib.hid hw1
  have HB1 := Lib.hid hB1
  have HBX := Lib.hid hbx
  have hgw : w.heap.size ≤ w1.heap.size := by omega
  have hgl : w.heap.size < w1.heap.size := by omega
  clear hO hob hS hP hw1 hB1 hbx hz1'
  go_enter Tryz.func37, Tryz.ntmps37
  go_wp2_with (at_make; rw [← HW1.out]; refine wpList_make_full _ rfl _ _ 50 rfl w1.heap.size 44 i0 _ 1 Tryz.underlying50 hi hz0 hz1 .i64 .i64 _ _ S rfl rfl rfl rfl ?_ ?_ ?_ ?_)
  · rw [hz2]; omega
  · simp [maxLen]; omega
  · exact Nat.le_refl _
  intro w2 ho hg
  rw [toList_madeCells_one] at ho
  have hb2 : Below w1.heap.size w1 w2 := (Below.refl _ w1).grown hg (Nat.le_refl _) (fun _ h => by cases h)
  have hB : Blk w2 w1.heap.size (List.replicate S (.slice none 0 0)) 44 := by
    obtain ⟨h0, ⟨e9, -⟩ | ⟨g9, cap, cur, e9, -, hh, hc, hm, hs, ht⟩⟩ := ho
    · cases e9
    · simp only [Value.slice.injEq, Option.some.injEq, Addr.mk.injEq, and_true, true_and] at e9
      obtain ⟨e9, rfl⟩ := e9
      subst e9
      unfold Blk
      rw [hh]
      rw [List.take_of_length_le (by simp; omega)] at ht
      rw [← ht]
  have HBX2 := Lib.hid (HBX.out.below hb2)
  have HB2 : Hid (Below w.heap.size w w2) := HB1.out.trans (hb2.mono HB1.out.size)
  obtain ⟨g, hgg⟩ : ∃ g, g = w1.heap.size := ⟨_, rfl⟩
  rw [← hgg] at hB hgw hgl ⊢
  have HBB := Lib.hid hB
  clear hi hz0 hz1 hz2 i0 ho hg hb2 hB x0 HBX HW1 HB1 hgg
  obtain ⟨w3, hw3⟩ : ∃ w3, w3 = w2.alloc (.cells #[.slice (some ⟨g, 0, none⟩) S S] 50) := ⟨_, rfl⟩
  obtain ⟨bm, hbm⟩ : ∃ bm, bm = w2.heap.size := ⟨_, rfl⟩
  have HBI : Hid (BuildInv w g bm S P [] w3) := by
    rw [hw3, hbm]
    exact ⟨HB2.out.alloc HB2.out.size _, Blk.new w2 _ _, by simpa using HBB.out.alloc _, List.nodup_nil, fun x hx => (by cases hx), fun x hx => (by cases hx)⟩
  have HBX3 : Hid (Blk w3 w.heap.size [.int .i64 S, .int .i64 t.initial, lv, ev, .int .i64 P, .int .i64 p.initial, lv2, ev2] 52) := by rw [hw3]; exact HBX2.out.alloc _
  have HW3 := Lib.hid hw3
  have HBM := Lib.hid hbm
  clear hw3 hbm HBX2 HB2 HBB
  go_wp2_with fail
  rw [← HBM.out, ← HW3.out]
  clear HBM HW3
  go_loopw [19] (fun i wr => ∃ gs : List Nat, gs.length ≤ S ∧ i = .int .i64 gs.length ∧ BuildInv w g bm S P gs wr ∧ Blk wr w.heap.size [.int .i64 S, .int .i64 t.initial, lv, ev, .int .i64 P, .int .i64 p.initial, lv2, ev2] 52) (fun i _ => S - (intOf i).toNat)
  case atStart => exact ⟨[], Nat.zero_le _, rfl, HBI.out, HBX3.out⟩
  case round =>
    obtain ⟨gs, hk, rfl, hin, hbx⟩ := hrel
    clear HBI HBX3
    have HIN := Lib.hid hin
    have HBX := Lib.hid hbx
    have c1 := hin.box.cell 0 rfl
    have c2 := hbx.cell 4 rfl
    have hbl := hin.box.lt
    have hgr := hin.rows.lt
    have hxl := hbx.lt
    obtain ⟨k, hkk⟩ : ∃ k, k = gs.length := ⟨_, rfl⟩
    rw [← hkk] at hk ⊢
    by_cases hlt : k < S
    · have c3 : wr.cell? ⟨g, k, none⟩ = some (.slice none 0 0) := hin.rows.cell k (by
        rw [List.getElem?_append_right (by simp; omega), List.getElem?_replicate, if_pos (by simp; omega)])
      have f3 := hin.rows.frozen k
      have hW : Below wr.heap.size wr ((wr.alloc (.cells #[.bool true] 4)).drew) := (box_below _ _ _).drew
      have hWs : ((wr.alloc (.cells #[.bool true] 4)).drew).heap.size = wr.heap.size + 1 := by simp
      have W1 := keeps hW hbl c1
      have W2 := keeps hW hxl c2
      have W3 := keeps hW hgr c3
      have W4 : ((wr.alloc (.cells #[.bool true] 4)).drew).frozen? ⟨g, k, none⟩ = false := (hW.frozen (p := ⟨g, k, none⟩) hgr).trans f3
      have HW := Lib.hid hW
      have HKK := Lib.hid hkk
      have hki : (k : Int) < (S : Int) := by omega
      have hne1 : bm ≠ g := hin.apart
      have hne2 : w.heap.size ≠ g := by omega
      clear hin hbx hW hkk
      go_wp2_with fail
      go_region_held3 (fun w' => w'.cell? ⟨bm, 0, none⟩ = some (.slice (some ⟨g, 0, none⟩) S S) ∧ w'.cell? ⟨w.heap.size, 4, none⟩ = some (.int .i64 P))
        (first
          | (refine ⟨?_, ?_⟩ <;> assumption)
          | (refine ⟨?_, ?_⟩ <;> (rw [cell_set_other (by first | exact hne1 | exact hne2)]; assumption))
          | go_keep)
        (first
          | (go_at_call 52; refine (Repeat_any P wr.heap.size _ hP1 hP2 (by simp)).mono ?_; rintro e w9 ⟨rfl, hb9, hB9⟩; have k1 := keeps hb9 (by simp; omega) W1; have k2 := keeps hb9 (by simp; omega) W2; have k3 := keeps hb9 (by simp; omega) W3; have k4 := (hb9.frozen (p := ⟨g, k, none⟩) (by simp; omega)).trans W4))
      have HN : Hid (BuildInv w g bm S P (gs ++ [wr.heap.size + 1]) (w9.setCell ⟨g, k, none⟩ (.slice (some ⟨wr.heap.size + 1, 0, none⟩) P P))) := by
        have := HIN.out.next (by rw [← HKK.out]; exact hlt) hgw HW.out hb9 hB9
        rw [← HKK.out, hWs] at this
        exact this
      have HBX9 : Hid (Blk (w9.setCell ⟨g, k, none⟩ (.slice (some ⟨wr.heap.size + 1, 0, none⟩) P P)) w.heap.size [.int .i64 S, .int .i64 t.initial, lv, ev, .int .i64 P, .int .i64 p.initial, lv2, ev2] 52) :=
        (HBX.out.below (HW.out.trans (hb9.mono HW.out.size))).setOther _ _ hne2
      clear hb9 hB9 k1 k2 k3 k4 W1 W2 W3 W4 hWs c1 c2 c3 f3 HW
      go_wp2_with fail
      go_roundw
      case rel => exact ⟨gs ++ [wr.heap.size + 1], by have := HKK.out; simp; omega, by have := HKK.out; rw [List.length_append, ← this]; go_num, HN.out, HBX9.out⟩
      case measure => simp [intOf]; omega
    · obtain rfl : k = S := by omega
      have HM0 := Lib.hid (hin.mat hkk.symm)
      have HBL := Lib.hid hin.below
      have HGS := Lib.hid hin.own
      clear hin hbx HIN HBX c1 c2 hbl hgr hxl hkk hk hlt
      go_wp2_with fail
      go_loopg [10] (2 * (k * P) + 1) (fun gk v10 wr => ∃ (c : List Bool) (b : Bool), v10 = .bool b ∧ RoundRel t p k P bm g gs w wr gk b c)
      case atStart => exact ⟨List.replicate (k * P) true, true, rfl, ⟨0, rfl⟩, (fun h => by cases h), by simp, HBL.out, HM0.out⟩
      case round =>
        obtain ⟨c, b, rfl, hrel⟩ := hrel
        have HR := Lib.hid hrel
        have m0 := hrel.mat.box.cell 0 rfl
        clear hrel HM0 HBL
        cases b
        · go_wp2_with fail
          go_ret
          exact ⟨c, bm, g, gs, rfl, HR.out.below, HR.out.mat, HR.out.iter, HR.out.rest rfl⟩
        · go_wp2_with fail
          go_loopw [10, 36] (fun v10 v36 wr => ∃ (x : Nat) (b : Bool), v10 = .bool b ∧ v36 = .int .i64 x ∧ x ≤ k ∧ SweepRel k P bm g gs w wr c (sweepTo t p x c) b) (fun _ v36 _ => k - (intOf v36).toNat)
          case atStart => exact ⟨0, false, rfl, rfl, Nat.zero_le _, Less.refl _, HR.out.below, HR.out.mat⟩
          case round =>
            obtain ⟨x, b, rfl, rfl, hxk, hin⟩ := hrel
            have HI := Lib.hid hin
            clear m0
            by_cases hlt : x < k
            · have m1 := hin.mat.box.cell 0 rfl
              have hx : x < gs.length := by rw [hin.mat.len]; exact hlt
              have m2 := hin.mat.rowCell x hx
              obtain ⟨rb, hrb⟩ : ∃ rb, rb = gs[x] := ⟨_, rfl⟩
              rw [← hrb] at m2
              have HRB := Lib.hid hrb
              generalize hck : sweepTo t p x c = ck at *
              have HCK := Lib.hid hck
              have hxi : (x : Int) < (k : Int) := by omega
              have hrown : w.heap.size ≤ rb := by rw [hrb]; exact HGS.out _ (List.getElem_mem _)
              clear hck hin hrb
              go_wp2_with fail
              clear m1 m2
              go_loopw [10, 44] (fun v10 v44 wr => ∃ (q : Nat) (b : Bool), v10 = .bool b ∧ v44 = .int .i64 q ∧ q ≤ P ∧ SweepRel k P bm g gs w wr c (rowTo t p x q ck) b) (fun _ v44 _ => P - (intOf v44).toNat)
              case atStart => exact ⟨0, b, rfl, rfl, Nat.zero_le _, by rw [rowTo_zero]; exact HI.out⟩
              case round =>
                obtain ⟨q, b4, rfl, rfl, hqP, hin4⟩ := hrel
                have HI4 := Lib.hid hin4
                clear HI
                by_cases hq : q < P
                · have n1 := hin4.mat.box.cell 0 rfl
                  have n2 := hin4.mat.rowCell x hx
                  have n3 := hin4.mat.cell x q hx hq
                  rw [← HRB.out] at n2 n3
                  have hqi : (q : Int) < (P : Int) := by omega
                  have HIX : Hid (idx p x q = x * P + q) := idx_nat HPP.out x q
                  generalize hcq : rowTo t p x q ck = cq at *
                  have HS1 : Hid (rowTo t p x (q + 1) ck = stepB t p x q cq) := by unfold Hid; rw [rowTo_succ, hcq]
                  have HCQ := Lib.hid hcq
                  clear hcq hin4
                  cases hcg : cq.getD (x * P + q) false
                  · have HST : Hid (stepB t p x q cq = cq) := stepB_no1 (by rw [HIX.out]; exact hcg)
                    rw [hcg] at n3
                    clear hcg
                    go_wp2_with fail
                    go_roundw
                    case rel => exact ⟨q + 1, b4, rfl, by go_num, by omega, by rw [HS1.out, HST.out]; exact HI4.out⟩
                    case measure => simp [intOf]; omega
                  · rw [hcg] at n3
                    have HCG := Lib.hid hcg
                    clear hcg
                    go_wp2_with fail
                    refine (stay1_any lo ob bm k P cq g gs t p lv ev lv2 ev2 x q _ (HOO.out.below HI4.out.below) HI4.out.mat (by omega) hqi (HOB.out.below HI4.out.below)).mono ?_
                    rintro e w6 ⟨rfl, hb6⟩
                    have HM6 := Lib.hid (HI4.out.mat.below hb6)
                    have HB6 := Lib.hid (HI4.out.below.trans (hb6.mono HI4.out.below.size))
                    have d1 := HM6.out.box.cell 0 rfl
                    have d2 := HM6.out.rowCell x hx
                    have d3 := HM6.out.cell x q hx hq
                    have d4 := (HM6.out.row x hx).frozen q
                    rw [← HRB.out] at d2 d3 d4
                    rw [HCG.out] at d3
                    clear n1 n2 n3 hb6
                    cases hem : (outOf t x).isEmpty
                    · cases hgo : goesB t p cq (outOf t x) q
                      · have HST : Hid (stepB t p x q cq = cq.set (x * P + q) false) := by
                          unfold Hid
                          rw [stepB_set (by rw [HIX.out]; exact HCG.out) hem hgo, HIX.out]
                        have HM7 : Hid (Mat (w6.setCell ⟨rb, q, none⟩ (.bool false)) bm k P (cq.set (x * P + q) false) g gs) := by
                          rw [HRB.out]
                          exact HM6.out.set x q hx hq false
                        have HB7 : Hid (Below w.heap.size w (w6.setCell ⟨rb, q, none⟩ (.bool false))) := HB6.out.setCell hrown _
                        have HL7 : Hid (Less c (cq.set (x * P + q) false) true) := HI4.out.less.set HCG.out
                        clear hem hgo
                        go_wp2_with fail
                        go_roundw
                        case rel => exact ⟨q + 1, true, rfl, by go_num, by omega, by rw [HS1.out, HST.out]; exact ⟨HL7.out, HB7.out, HM7.out⟩⟩
                        case measure => simp [intOf]; omega
                      · have HST : Hid (stepB t p x q cq = cq) := stepB_no3 hgo
                        clear hem hgo
                        go_wp2_with fail
                        go_roundw
                        case rel => exact ⟨q + 1, b4, rfl, by go_num, by omega, by rw [HS1.out, HST.out]; exact ⟨HI4.out.less, HB6.out, HM6.out⟩⟩
                        case measure => simp [intOf]; omega
                    · have HST : Hid (stepB t p x q cq = cq) := stepB_no2 hem
                      clear hem
                      go_wp2_with fail
                      go_roundw
                      case rel => exact ⟨q + 1, b4, rfl, by go_num, by omega, by rw [HS1.out, HST.out]; exact ⟨HI4.out.less, HB6.out, HM6.out⟩⟩
                      case measure => simp [intOf]; omega
                · obtain rfl : P = q := by omega
                  clear hin4
                  go_wp2_with fail
                  go_roundw
                  case rel => exact ⟨x + 1, b4, rfl, by go_num, by omega, by rw [sweepTo_succ, ← HPP.out, Int.toNat_natCast, HCK.out]; exact HI4.out⟩
                  case measure => simp [intOf]; omega
            · obtain rfl : k = x := by omega
              have hsw : sweepTo t p k c = sweepB t p c := by unfold sweepB; rw [← HSS.out, Int.toNat_natCast]
              rw [hsw] at HI
              clear hsw hin
              go_wp2_with fail
              go_roundg (2 * (sweepB t p c).count true + b.toNat)
              case measure =>
                have h1 := HR.out.left
                rcases HI.out.less.2 with ⟨rfl, h2⟩ | ⟨rfl, h2⟩
                · simp only [Bool.toNat_true] at *; omega
                · rw [h2]; simp only [Bool.toNat_true, Bool.toNat_false] at *; omega
              case rel =>
                obtain ⟨n, hn⟩ := HR.out.iter
                exact ⟨sweepB t p c, b, rfl, ⟨n + 1, by rw [sweeps_succ, ← hn]⟩, (fun h => by
                  rcases HI.out.less.2 with ⟨h1, -⟩ | ⟨-, h1⟩
                  · rw [h1] at h; cases h
                  · rw [h1, h1]), Nat.le_refl _, HI.out.below, HI.out.mat⟩

end Go.Proofs.YtaccfpacemhaaaaGreatDoor
