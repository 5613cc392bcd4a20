/-
  What the reference's CanStay answers.
-/
import Derived.Test.YtaccfpacemhaaaaGreatDoorSpec8
namespace Go.Proofs.YtaccfpacemhaaaaGreatDoor
open Go Go.RowKit

/-- A machine's struct in a block of its own. -/
theorem LtsPtr.of_new {lo : Nat} {w : World} {lv ev : Value} {t : Lts} (T : TypeId) (h1 : SliceK 1 encS lo w lv t.labels) (h2 : SliceK 3 encE lo w ev t.edges) :
    LtsPtr lo (w.alloc (.cells #[.int .i64 t.states, .int .i64 t.initial, lv, ev] T)) w.heap.size t := by
  have hb : Below w.heap.size w (w.alloc (.cells #[.int .i64 t.states, .int .i64 t.initial, lv, ev] T)) := (Below.refl _ _).alloc (Nat.le_refl _) _
  have B := Blk.new w [.int .i64 t.states, .int .i64 t.initial, lv, ev] T
  exact ⟨lv, ev, by simp, B.cell 0 rfl, B.cell 1 rfl, B.cell 2 rfl, B.cell 3 rfl, h1.below hb, h2.below hb⟩

/-- Two machines in two blocks of their own, as CanStay boxes them. -/
theorem two_boxes {lo : Nat} {w : World} {lv ev lv2 ev2 : Value} {t p : Lts} (T : TypeId) (h1 : SliceK 1 encS lo w lv t.labels) (h2 : SliceK 3 encE lo w ev t.edges) (h3 : SliceK 1 encS lo w lv2 p.labels) (h4 : SliceK 3 encE lo w ev2 p.edges) :
    LtsPtr lo ((w.alloc (.cells #[.int .i64 t.states, .int .i64 t.initial, lv, ev] T)).alloc (.cells #[.int .i64 p.states, .int .i64 p.initial, lv2, ev2] T)) w.heap.size t
    ∧ LtsPtr lo ((w.alloc (.cells #[.int .i64 t.states, .int .i64 t.initial, lv, ev] T)).alloc (.cells #[.int .i64 p.states, .int .i64 p.initial, lv2, ev2] T)) (w.heap.size + 1) p
    ∧ Below w.heap.size w ((w.alloc (.cells #[.int .i64 t.states, .int .i64 t.initial, lv, ev] T)).alloc (.cells #[.int .i64 p.states, .int .i64 p.initial, lv2, ev2] T)) := by
  have hb : Below w.heap.size w (w.alloc (.cells #[.int .i64 t.states, .int .i64 t.initial, lv, ev] T)) := (Below.refl _ _).alloc (Nat.le_refl _) _
  have he : (w.alloc (.cells #[.int .i64 t.states, .int .i64 t.initial, lv, ev] T)).heap.size = w.heap.size + 1 := by simp
  refine ⟨(LtsPtr.of_new T h1 h2).below ((Below.refl _ _).alloc (Nat.le_refl _) _), ?_, hb.alloc (by simp) _⟩
  have := LtsPtr.of_new (t := p) T (h3.below hb) (h4.below hb)
  rwa [he] at this

theorem flat_encB (c : List Bool) : c.flatMap encB = c.map Value.bool := by
  induction c with
  | nil => rfl
  | cons a r ih => rw [List.map_cons, List.flatMap_cons, ih]; rfl

theorem OwnIntss.lower {eo ei lo lo' : Nat} {w : World} {v : Value} {vs : List Value} {xss : List (List Int)} (h : OwnIntss eo ei lo w v vs xss) (hl : lo' ≤ lo) : OwnIntss eo ei lo' w v vs xss := by
  obtain ⟨h1, h2, h3, h4, h5⟩ := h
  exact ⟨h1, own_lower h2 hl, fun i a b => own_lower (h3 i a b) hl, h4, h5⟩

/-- The answer of CanStay: the pairs, and the code. -/
def MadePairs (code : Int) (xss : List (List Int)) (w : World) (e : Ending) (w' : World) : Prop :=
  ∃ v vs, e = .returned (.tuple #[v, .int .i64 code]) ∧ Below w.heap.size w w' ∧ OwnIntss 56 2 w.heap.size w' v vs xss

set_option maxRecDepth 100000 in
set_option maxHeartbeats 2000000 in
theorem specCanStay_no (code : Int) (lo : Nat) (t p : Lts) (lv ev lv2 ev2 : Value) (w : World) (h1 : Short t.labels) (h2 : Short p.labels) (hs1 : SliceK 1 encS lo w lv t.labels) (hs2 : SliceK 3 encE lo w ev t.edges)
    (hq1 : SliceK 1 encS lo w lv2 p.labels) (hq2 : SliceK 3 encE lo w ev2 p.edges) (hn : (¬ (Valid t ∧ Valid p) ∧ code = 1) ∨ (Valid t ∧ Valid p ∧ ¬ Single p ∧ code = 6)) :
    Calls Tryz.prog 5 #[.agg #[.int .i64 t.states, .int .i64 t.initial, lv, ev], .agg #[.int .i64 p.states, .int .i64 p.initial, lv2, ev2]] w (fun e w' => e = .returned (.tuple #[.slice none 0 0, .int .i64 code]) ∧ Below w.heap.size w w') := by
  obtain ⟨ht, hp, hb⟩ := two_boxes 32 hs1 hs2 hq1 hq2
  have HA : Hid (Calls Tryz.prog 15 #[.pointer (some ⟨w.heap.size, 0, none⟩), .pointer (some ⟨w.heap.size + 1, 0, none⟩)] ((w.alloc (.cells #[.int .i64 t.states, .int .i64 t.initial, lv, ev] 32)).alloc (.cells #[.int .i64 p.states, .int .i64 p.initial, lv2, ev2] 32)) (RetCode code ((w.alloc (.cells #[.int .i64 t.states, .int .i64 t.initial, lv, ev] 32)).alloc (.cells #[.int .i64 p.states, .int .i64 p.initial, lv2, ev2] 32)))) := by
    rcases hn with ⟨hn, rfl⟩ | ⟨hv, hv2, hn, rfl⟩
    · exact l30Ask_bad _ _ lo t p _ h1 h2 ht hp hn
    · exact l30Ask_state _ _ lo t p _ h1 h2 ht hp hv hv2 hn
  have HB := Lib.hid hb
  have hc : code = 1 ∨ code = 6 := by rcases hn with ⟨-, h⟩ | ⟨-, -, -, h⟩ <;> omega
  clear hn ht hp hb h1 h2 hs1 hs2 hq1 hq2
  rcases hc with rfl | rfl
  all_goals
    go_enter Tryz.func5, Tryz.ntmps5
    go_wp2_with fail
    refine Calls.mono HA.out ?_
    rintro e w1 ⟨rfl, hb1⟩
    have HB1 := Lib.hid hb1
    have hsz := hb1.size
    clear hb1
    go_wp2_with fail
    go_ret2
    exact ⟨rfl, HB.out.trans (HB1.out.mono HB.out.size)⟩

set_option maxRecDepth 100000 in
set_option maxHeartbeats 2000000 in
theorem specCanStay_yes (lo : Nat) (t p : Lts) (lv ev lv2 ev2 : Value) (w : World) (h1 : Short t.labels) (h2 : Short p.labels) (hs1 : SliceK 1 encS lo w lv t.labels) (hs2 : SliceK 3 encE lo w ev t.edges)
    (hq1 : SliceK 1 encS lo w lv2 p.labels) (hq2 : SliceK 3 encE lo w ev2 p.edges) (hv : Valid t) (hv2 : Valid p) (hsg : Single p) :
    Calls Tryz.prog 5 #[.agg #[.int .i64 t.states, .int .i64 t.initial, lv, ev], .agg #[.int .i64 p.states, .int .i64 p.initial, lv2, ev2]] w
      (fun e w' => ∃ c : List Bool, Rest t p (List.replicate (t.states.toNat * p.states.toNat) true) c ∧ MadePairs 0 (pairsOf p c) w e w') := by
  obtain ⟨ht, hp, hb⟩ := two_boxes 32 hs1 hs2 hq1 hq2
  obtain ⟨P, hP⟩ : ∃ P : Nat, (P : Int) = p.states := ⟨p.states.toNat, by have := hv2.st0; omega⟩
  have hP1 : 1 ≤ P := by have := hv2.st0; omega
  have hP2 : P ≤ 40 := by have := hv2.st1; omega
  have hlen : t.states.toNat * p.states.toNat ≤ 1600 := Nat.mul_le_mul (show t.states.toNat ≤ 40 by have := hv.st1; omega) (show p.states.toNat ≤ 40 by have := hv2.st1; omega)
  have HA := Lib.hid (l30Ask_good _ _ lo t p _ h1 h2 ht hp hv hv2 hsg)
  have HB := Lib.hid hb
  have HT := Lib.hid ht
  have HP := Lib.hid hp
  have VT := Lib.hid hv
  have VP := Lib.hid hv2
  have HPP := Lib.hid hP
  have HLE := Lib.hid hlen
  clear ht hp hb h1 h2 hs1 hs2 hq1 hq2 hv hv2 hsg hP hlen
  go_enter Tryz.func5, Tryz.ntmps5
  go_wp2_with fail
  refine Calls.mono HA.out ?_
  rintro e w1 ⟨rfl, hb1⟩
  have HB1 := Lib.hid hb1
  have hsz := hb1.size
  have HT1 := Lib.hid (HT.out.below hb1)
  have HP1 := Lib.hid (HP.out.below hb1)
  clear hb1 HA HT HP
  go_wp2_with fail
  refine (l30Stay_any _ _ lo t p _ VT.out VP.out HT1.out HP1.out).mono ?_
  rintro e w2 ⟨c, rfl, hb2, hs2, ho2, hcl, hrest⟩
  have HB2 := Lib.hid hb2
  have hsz2 := hb2.size
  have HC := Lib.hid (hcl ▸ HLE.out)
  obtain ⟨_, _, q0, q1, -, -, -, -, -⟩ := HP1.out.below hb2
  rw [← HPP.out] at q1
  have Q0 := Lib.hid q0
  have Q1 := Lib.hid q1
  have HRE := Lib.hid hrest
  have HOS : Hid (SliceK 1 encB 0 w2 (.slice (some ⟨w1.heap.size, 0, none⟩) c.length c.length) c) := by
    have e := (flat_encB c).symm
    rw [e] at ho2
    exact (SliceK.of_owns (enc := encB) encB_len rfl (own_lower ho2 (Nat.zero_le _)))
  clear hb2 ho2 hcl hrest q0 q1
  go_wp2_with fail
  refine (l30Pairs_any _ P 0 0 p _ c _ Q0.out Q1.out hP1 hP2 HC.out HOS.out).mono ?_
  rintro e w3 ⟨v, vs, rfl, hb3, ho3⟩
  have HB3 := Lib.hid hb3
  have HO3 := Lib.hid ho3
  clear hb3 ho3
  go_wp2_with fail
  go_ret2
  refine ⟨c, HRE.out, v, vs, rfl, HB.out.trans ((HB1.out.trans ((HB2.out.trans (HB3.out.mono hsz2)).mono hsz)).mono HB.out.size), ?_⟩
  rw [← pairsTo_all HPP.out c]
  exact HO3.out.lower (Nat.le_trans HB.out.size (Nat.le_trans hsz hsz2))

end Go.Proofs.YtaccfpacemhaaaaGreatDoor
