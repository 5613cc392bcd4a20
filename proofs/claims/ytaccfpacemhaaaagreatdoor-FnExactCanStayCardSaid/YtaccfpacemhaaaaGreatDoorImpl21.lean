/-
  What the implementation's CanStay answers.
-/
import Derived.Test.YtaccfpacemhaaaaGreatDoorImpl20
namespace Go.Proofs.YtaccfpacemhaaaaGreatDoor
open Go Go.RowKit

set_option maxRecDepth 100000 in
set_option maxHeartbeats 1000000 in
theorem implCanStay_no (code : Int) (lo : Nat) (t p : Lts) (lv ev lv2 ev2 : Value) (w : World) (h1 : Short20 t.labels) (h2 : Short20 p.labels) (hs1 : SliceK 1 encS lo w lv t.labels) (hs2 : SliceK 3 encE lo w ev t.edges)
    (hq1 : SliceK 1 encS lo w lv2 p.labels) (hq2 : SliceK 3 encE lo w ev2 p.edges) (g : Glob w) (hn : (¬ (Valid t ∧ Valid p) ∧ code = 1) ∨ (Valid t ∧ Valid p ∧ ¬ Single p ∧ code = 6)) :
    Calls Tryz.prog 7 #[.agg #[.int .i64 t.states, .int .i64 t.initial, lv, ev], .agg #[.int .i64 p.states, .int .i64 p.initial, lv2, ev2]] w (fun e w' => e = .returned (.tuple #[.slice none 0 0, .int .i64 code]) ∧ Below w.heap.size w w') := by
  have HB := Lib.hid (two_new' w #[.int .i64 t.states, .int .i64 t.initial, lv, ev] #[.int .i64 p.states, .int .i64 p.initial, lv2, ev2] 32)
  have HA := Lib.hid (observedCode_any lo t p lv ev lv2 ev2 code _ h1 h2 (hs1.below HB.out) (hs2.below HB.out) (hq1.below HB.out) (hq2.below HB.out) (g.below HB.out) (by
    rcases hn with h | h
    · exact .inl h
    · exact .inr (.inl h)))
  have hc : code = 1 ∨ code = 6 := by rcases hn with ⟨-, h⟩ | ⟨-, -, -, h⟩ <;> omega
  clear hn h1 h2 hs1 hs2 hq1 hq2 g
  rcases hc with rfl | rfl
  all_goals
    go_enter Tryz.func7, Tryz.ntmps7
    go_wp2_with fail
    refine Calls.mono HA.out ?_
    rintro e w1 ⟨rfl, hb1⟩
    have HB1 := Lib.hid hb1
    clear hb1
    go_wp2_with fail
    go_ret2
    exact ⟨rfl, HB.out.trans (HB1.out.mono HB.out.size)⟩

set_option maxRecDepth 100000 in
set_option maxHeartbeats 1000000 in
theorem implCanStay_yes (lo : Nat) (t p : Lts) (lv ev lv2 ev2 : Value) (w : World) (h1 : Short20 t.labels) (h2 : Short20 p.labels) (hs1 : SliceK 1 encS lo w lv t.labels) (hs2 : SliceK 3 encE lo w ev t.edges)
    (hq1 : SliceK 1 encS lo w lv2 p.labels) (hq2 : SliceK 3 encE lo w ev2 p.edges) (g : Glob w) (hv : Valid t) (hv2 : Valid p) (hsg : Single p) :
    Calls Tryz.prog 7 #[.agg #[.int .i64 t.states, .int .i64 t.initial, lv, ev], .agg #[.int .i64 p.states, .int .i64 p.initial, lv2, ev2]] w
      (fun e w' => ∃ c : List Bool, Rest t p (List.replicate (t.states.toNat * p.states.toNat) true) c ∧ MadePairs 0 (pairsOf p c) w e w') := by
  obtain ⟨S, hS⟩ : ∃ S : Nat, (S : Int) = t.states := ⟨t.states.toNat, by have := hv.st0; omega⟩
  obtain ⟨P, hP⟩ : ∃ P : Nat, (P : Int) = p.states := ⟨p.states.toNat, by have := hv2.st0; omega⟩
  have hS2 : S ≤ 40 := by have := hv.st1; omega
  have hP2 : P ≤ 40 := by have := hv2.st1; omega
  have HB := Lib.hid (two_new' w #[.int .i64 t.states, .int .i64 t.initial, lv, ev] #[.int .i64 p.states, .int .i64 p.initial, lv2, ev2] 32)
  have HA := Lib.hid (observedCode_any lo t p lv ev lv2 ev2 0 _ h1 h2 (hs1.below HB.out) (hs2.below HB.out) (hq1.below HB.out) (hq2.below HB.out) (g.below HB.out) (.inr (.inr ⟨hv, hv2, hsg, rfl⟩)))
  have HO : Hid (Both lo S P t p lv ev lv2 ev2 ((w.alloc (.cells #[.int .i64 t.states, .int .i64 t.initial, lv, ev] 32)).alloc (.cells #[.int .i64 p.states, .int .i64 p.initial, lv2, ev2] 32))) :=
    ⟨hv, hv2, hsg, hS, hP, hs1.below HB.out, hs2.below HB.out, hq1.below HB.out, hq2.below HB.out⟩
  have HSS := Lib.hid hS
  have HPP := Lib.hid hP
  clear h1 h2 hs1 hs2 hq1 hq2 g hv hv2 hsg hS hP
  go_enter Tryz.func7, Tryz.ntmps7
  go_wp2_with fail
  refine Calls.mono HA.out ?_
  rintro e w1 ⟨rfl, hb1⟩
  have HB1 := Lib.hid hb1
  have c0 : w1.cell? ⟨w.heap.size, 0, none⟩ = some (.int .i64 t.states) := keeps hb1 (by simp; omega) (by simp)
  have c1 : w1.cell? ⟨w.heap.size, 1, none⟩ = some (.int .i64 t.initial) := keeps hb1 (by simp; omega) (by simp)
  have c2 : w1.cell? ⟨w.heap.size, 2, none⟩ = some lv := keeps hb1 (by simp; omega) (by simp)
  have c3 : w1.cell? ⟨w.heap.size, 3, none⟩ = some ev := keeps hb1 (by simp; omega) (by simp)
  have d0 : w1.cell? ⟨w.heap.size + 1, 0, none⟩ = some (.int .i64 p.states) := keeps hb1 (by simp) (by simp)
  have d1 : w1.cell? ⟨w.heap.size + 1, 1, none⟩ = some (.int .i64 p.initial) := keeps hb1 (by simp) (by simp)
  have d2 : w1.cell? ⟨w.heap.size + 1, 2, none⟩ = some lv2 := keeps hb1 (by simp) (by simp)
  have d3 : w1.cell? ⟨w.heap.size + 1, 3, none⟩ = some ev2 := keeps hb1 (by simp) (by simp)
  have HO1 := Lib.hid (HO.out.below HB1.out)
  clear hb1 HA HO
  go_wp2_with fail
  refine (stay_any lo S P t p lv ev lv2 ev2 _ HO1.out).mono ?_
  rintro e w2 ⟨c, bm, g, gs, rfl, hb2, hm, hr⟩
  have HB2 := Lib.hid (HB1.out.trans (hb2.mono HB1.out.size))
  have HM := Lib.hid hm
  have HR := Lib.hid hr
  clear hb2 hm hr c0 c1 c2 c3 d0 d1 d2 d3
  go_wp2_with fail
  refine (list_any bm S P g gs c _ hS2 hP2 HM.out).mono ?_
  rintro e w3 ⟨v, vs, rfl, hb3, ho3⟩
  have HB3 := Lib.hid (HB2.out.trans (hb3.mono HB2.out.size))
  have HO3 : Hid (OwnIntss 56 2 w.heap.size w3 v vs (pairsTo P c c.length)) := ho3.lower (Nat.le_trans HB.out.size HB2.out.size)
  clear hb3 ho3
  go_wp2_with fail
  go_ret2
  refine ⟨c, ?_, v, vs, rfl, HB.out.trans (HB3.out.mono HB.out.size), ?_⟩
  · rw [← HSS.out, ← HPP.out, Int.toNat_natCast, Int.toNat_natCast]; exact HR.out
  · rw [← pairsTo_all HPP.out c]; exact HO3.out

end Go.Proofs.YtaccfpacemhaaaaGreatDoor
