/-
  Plain laws: the implementation's reading of a label says what the plain definition says.
  What the implementation's ValidLts computes.
  The library's slices.IndexFunc and slices.ContainsFunc at a slice of numbers, with a function that may lay blocks of its own.
  The program's statesCode.
  The table of the formulas while it is filled; what DistinguishingFormula returns. Plain, and memory notions.
-/
import Derived.Test.YtjoacldbgnphkaaGreatDoorD15
import Derived.Lib.IndexBytes
import Derived.Test.YtjoacldbgnphkaaGreatDoorD4
import Derived.Test.YtjoacldbgnphkaaGreatDoorProg
import Derived.Test.YtjoacldbgnphkaaGreatDoorD1
import Derived.Test.YtjoacldbgnphkaaGreatDoorD8
namespace Go.Proofs.YtjoacldbgnphkaaGreatDoor
open Go Go.RowKit

theorem hasSuffix_one (l : List UInt8) (c : UInt8) : Lib.hasSuffix l [c] = (l.getLast? == some c) := by
 unfold Lib.hasSuffix List.isSuffixOf
 rw [← List.head?_reverse]
 cases l.reverse with
 | nil => rfl
 | cons a r =>
  show (c == a && true) = (some a == some c)
  rw [Bool.and_true]
  by_cases h : a = c
  ·subst h; simp
  ·rw [beq_eq_false_iff_ne.2 (fun e => h e.symm), beq_eq_false_iff_ne.2 (fun e => h (by simpa using e))]

theorem indexByte_find (c : UInt8) : ∀ l : List UInt8, Lib.indexByte l c = if l.findIdx (fun x => x == c) < l.length then ((l.findIdx (fun x => x == c) : Nat) : Int) else -1
 | [] => rfl
 | x :: r => by
  unfold Lib.indexByte
  rw [indexByte_find c r, List.findIdx_cons]
  obtain ⟨n, hn⟩ : ∃ n, n = r.findIdx (fun x => x == c) := ⟨_, rfl⟩
  rw [← hn]
  cases hx : (x == c)
  ·simp only [Bool.false_eq_true, if_false, cond_false, List.length_cons]
   by_cases h : n < r.length
   ·have h1 : n + 1 < r.length + 1 := by omega
    have h2 : ((n : Int) == -1) = false := by rw [beq_eq_false_iff_ne]; omega
    simp only [h, h1, h2, if_true, Bool.false_eq_true, if_false]
    omega
   ·have h1 : ¬ n + 1 < r.length + 1 := by omega
    simp only [h, h1, if_false, beq_self_eq_true, if_true]
  ·simp

theorem index_find (c : UInt8) (l : List UInt8) : Lib.index l [c] = if l.findIdx (fun x => x == c) < l.length then ((l.findIdx (fun x => x == c) : Nat) : Int) else -1 := by
 rw [Lib.index_one, indexByte_find]

theorem splitK_eq (c : UInt8) : ∀ (k : Nat) (l : List UInt8), Lib.count l [c] = k → Lib.splitK [c] 0 k l = splitAt c l := by
 intro k
 induction k with
 | zero =>
  intro l hk
  by_cases h : l.findIdx (fun x => x == c) < l.length
  ·have := Lib.count_hit (s := l) (sub := [c]) (i := l.findIdx (fun x => x == c)) (by simp) (by rw [index_find, if_pos h])
   omega
  ·rw [splitAt_none (List.findIdx_eq_length.1 (Nat.le_antisymm List.findIdx_le_length (by omega)))]
   rfl
 | succ k ih =>
  intro l hk
  by_cases h : l.findIdx (fun x => x == c) < l.length
  ·have hi := Lib.count_hit (s := l) (sub := [c]) (i := l.findIdx (fun x => x == c)) (by simp) (by rw [index_find, if_pos h])
   have hs := split_step (c := c) (l := l) (m := 0) (k := l.findIdx (fun x => x == c)) (Nat.zero_le _) h (fun j hj _ hlt => by simpa using List.not_of_lt_findIdx hlt) (List.findIdx_getElem (w := h))
   rw [List.drop_zero, Nat.sub_zero] at hs
   rw [hs]
   unfold Lib.splitK
   rw [index_find, if_pos h, if_neg (by rw [beq_iff_eq]; omega)]
   simp only [Int.toNat_natCast, Nat.add_zero, List.length_singleton]
   rw [ih _ (by simp only [List.length_singleton] at hi; omega)]
  ·rw [Lib.count_miss (by rw [index_find, if_neg h])] at hk
   omega

theorem join_splitAt (c : UInt8) : ∀ l : List UInt8, Lib.join (splitAt c l) [c] = l
 | [] => by simp [splitAt, Lib.join_one]
 | x :: r => by
  have ih := join_splitAt c r
  unfold splitAt
  cases hs : splitAt c r with
  | nil => exact absurd hs (splitAt_ne c r)
  | cons p ps =>
   rw [hs, Lib.join_cons] at ih
   simp only
   split
   ·next h =>
    rw [Lib.join_cons, Lib.joinTail, List.map_cons, List.flatten_cons, ← Lib.joinTail]
    rw [beq_iff_eq.1 h, ← ih]
    simp
   ·rw [Lib.join_cons, ← ih]; simp

theorem partsB_eq (rest : List UInt8) : (partsB rest).map (fun s => s.data.toList) = splitAt 44 (Lib.trimSuffix rest [41]) := by
 unfold partsB
 rw [Lib.splitB_data]
 exact splitK_eq 44 _ _ rfl

theorem numB_itoa {l : List UInt8} {n : Int} (h : numB l = some n) : Lib.itoa n = l := by
 rw [← readDec_eq] at h
 unfold readDec at h
 split at h
 ·cases h
 ·split at h
  ·split at h
   ·next he => cases h; exact he
   ·cases h
  ·cases h

theorem decs_eq (ss : List ByteArray) : decs ss = (ss.map (fun s => s.data.toList)).map fun p => (numB p).getD 0 := by
 unfold decs
 rw [List.map_map]
 exact List.map_congr_left fun s _ => by simp [readDec_eq]
theorem decsOk_eq (ss : List ByteArray) : decsOk ss = (ss.map (fun s => s.data.toList)).all fun p => (numB p).isSome := by
 unfold decsOk
 rw [List.all_map]
 congr 1
 funext s
 simp [readDec_eq]

theorem words_join {ps : List (List UInt8)} (h : (ps.all fun p => (numB p).isSome) = true) : (wordsOf (ps.map fun p => (numB p).getD 0)).map (·.data.toList) = ps := by
 unfold wordsOf
 rw [List.map_map, List.map_map]
 conv => rhs; rw [← List.map_id ps]
 refine List.map_congr_left fun p hp => ?_
 have h1 := List.all_eq_true.1 h p hp
 obtain ⟨n, hn⟩ := Option.isSome_iff_exists.1 h1
 simp [hn, numB_itoa hn]

theorem numOk_eq (p : List UInt8) : numOk p = ((numB p).isSome && isVal ((numB p).getD 0)) := by
 unfold numOk isVal
 cases numB p <;> simp

theorem all_numOk (ps : List (List UInt8)) : ps.all numOk = ((ps.all fun p => (numB p).isSome) && (ps.map fun p => (numB p).getD 0).all isVal) := by
 induction ps with
 | nil => rfl
 | cons p r ih =>
  simp only [List.all_cons, List.map_cons, ih, numOk_eq]
  cases (numB p).isSome <;> simp [Bool.and_left_comm]

theorem cut_eq (l : List UInt8) : Lib.cut l [40] = if openAt l < l.length then (l.take (openAt l), l.drop (openAt l + 1), true) else (l, [], false) := by
 unfold Lib.cut
 rw [index_find]
 unfold openAt
 by_cases h : l.findIdx (fun x => x == 40) < l.length
 ·rw [if_pos h, if_pos (by omega), if_pos h]
  simp
 ·rw [if_neg h, if_neg (by omega), if_neg h]

theorem isAction_tau : isAction tauL = false := by decide

/-- What the implementation says of a label is what the plain definition says. -/
theorem readOk_eq (l : List UInt8) : readOk l = labelOk l := by
 unfold readOk labelOk
 rw [cut_eq]
 have hle := openAt_le l
 by_cases h : openAt l < l.length
 ·rw [if_pos h, if_neg (show ¬ openAt l = l.length by omega)]
  simp only [if_true]
  have hget := openAt_get h
  have hl : l.take (openAt l) ++ 40 :: l.drop (openAt l + 1) = l := by
   rw [← hget, ← List.drop_eq_getElem_cons h, List.take_append_drop]
  rw [decs_eq, decsOk_eq, partsB_eq]
  obtain ⟨name, hname⟩ : ∃ x, x = l.take (openAt l) := ⟨_, rfl⟩
  obtain ⟨rest, hrest⟩ : ∃ x, x = l.drop (openAt l + 1) := ⟨_, rfl⟩
  have hrl : rest.length = l.length - 1 - openAt l := by rw [hrest, List.length_drop]; omega
  have hlast : l.getLast? = if rest = [] then some 40 else rest.getLast? := by
   conv => lhs; rw [← hl, ← hrest]
   rw [List.getLast?_append]
   cases rest with
   | nil => rfl
   | cons a r => simp [List.getLast?_cons]
  rw [← hname, ← hrest]
  rw [← hname, ← hrest] at hl
  obtain ⟨Q, hQ⟩ : ∃ Q, Q = splitAt 44 (Lib.trimSuffix rest [41]) := ⟨_, rfl⟩
  have hQne : Q ≠ [] := by rw [hQ]; exact splitAt_ne _ _
  rw [← hQ]
  by_cases h41 : l.getLast? = some 41
  ·have hr41 : rest.getLast? = some 41 := by
    rw [hlast] at h41
    split at h41
    ·cases h41
    ·exact h41
   have htrim : Lib.trimSuffix rest [41] = rest.take (rest.length - 1) := by
    unfold Lib.trimSuffix
    rw [hasSuffix_one, hr41, if_pos (by rfl)]
    rfl
   have hback : Lib.trimSuffix rest [41] ++ [41] = rest := by
    rw [htrim]
    have hne : rest ≠ [] := fun e => by rw [e] at hr41; cases hr41
    rw [← List.dropLast_eq_take]
    have : rest.getLast hne = 41 := by rw [List.getLast?_eq_some_getLast hne] at hr41; simpa using hr41
    have h9 := List.dropLast_concat_getLast hne
    rw [this] at h9
    exact h9
   have hparts : labelParts l = Q := by
    unfold labelParts
    rw [← hrest, hQ, htrim, hrl]
    congr 2
   rw [hparts, h41, all_numOk]
   cases hok : (Q.all fun p => (numB p).isSome) with
   | false => simp
   | true =>
    have htxt : labTxt name (Q.map fun p => (numB p).getD 0) = l := by
     unfold labTxt
     rw [words_join hok, if_neg (by simpa using hQne), hQ, join_splitAt, hback, hl]
    rw [htxt]
    unfold labB
    by_cases hn : name = tauL
    ·rw [if_pos hn, hn, isAction_tau]
     have : (Q.map fun p => (numB p).getD 0).isEmpty = false := by simpa using hQne
     rw [this]; simp
    ·rw [if_neg hn]
     simp only [List.length_map]
     cases isAction name <;> cases ((Q.map fun p => (numB p).getD 0).all isVal) <;> simp
  ·have h41' : (l.getLast? == some 41) = false := by simpa using h41
   rw [h41']
   simp only [Bool.false_and, Bool.and_false]
   cases hok : (Q.all fun p => (numB p).isSome) with
   | false => simp
   | true =>
    have hr41 : rest.getLast? ≠ some 41 := by
     intro e
     apply h41
     rw [hlast, if_neg (fun e2 => by rw [e2] at e; cases e)]
     exact e
    have htrim : Lib.trimSuffix rest [41] = rest := by
     unfold Lib.trimSuffix
     rw [hasSuffix_one, if_neg (by simpa using hr41)]
    have htxt : labTxt name (Q.map fun p => (numB p).getD 0) ≠ l := by
     unfold labTxt
     rw [words_join hok, if_neg (by simpa using hQne), hQ, join_splitAt, htrim]
     intro e
     have := congrArg List.length e
     rw [← hl] at this
     simp at this
    rw [decide_eq_false htxt]
    simp
 ·have he : openAt l = l.length := by omega
  rw [if_neg h, if_pos he]
  simp only [Bool.false_eq_true, if_false, decide_true, Bool.and_true]
  unfold labB
  by_cases ht : l = tauL
  ·rw [if_pos ht, ht]; rfl
  ·rw [if_neg ht]
   unfold isAction
   have : (l == tauL) = false := by simpa using ht
   rw [this]
   simp

end Go.Proofs.YtjoacldbgnphkaaGreatDoor

namespace Go.Proofs.YtjoacldbgnphkaaGreatDoor
open Go Go.RowKit

def Short20 (ss : List ByteArray) : Prop := ∀ i (h : i < ss.length), ss[i].size ≤ 1048576

theorem within_is {n lo hi : Int} {b : Bool} (h : inB n lo hi = b) (w : World) : Calls Tryz.prog 61 #[.int .i64 n, .int .i64 lo, .int .i64 hi] w fun e w' => e = .returned (.bool b) ∧ w = w' := by
 subst h; exact within_any n lo hi w
theorem isState_is {lv ev : Value} {s i k : Int} {b : Bool} (h : inB k 0 (s - 1) = b) (w : World) (h1 : 1 ≤ s) (h2 : s ≤ 40) :
  Calls Tryz.prog 45 #[.agg #[.int .i64 s, .int .i64 i, lv, ev], .int .i64 k] w fun e w' => e = .returned (.bool b) ∧ Below w.heap.size w w' := by
 subst h; exact isState_any lv ev s i k w h1 h2
theorem IsLabel_is {s : ByteArray} {b : Bool} (h : labelOk s.data.toList = b) (w : World) (hs : s.size ≤ 1048576) (g : Glob w) :
  Calls Tryz.prog 62 #[.string s] w fun e w' => e = .returned (.bool b) ∧ Below w.heap.size w w' := by
 subst h; rw [← readOk_eq]; exact IsLabel_any s w hs g

theorem index_in (n m : Int) (w : World) (h1 : -9223372036854775807 ≤ m) (h2 : m ≤ 9223372036854775807) : Calls Tryz.prog 63 #[.int .i64 n, .int .i64 m] w fun e w' => e = .returned (.bool (inB n 0 (m - 1))) ∧ w = w' :=
 index_any n m w h1 h2

/-- The first k labels are as they must be. -/
def GoodTo (ls : List ByteArray) (k : Nat) : Prop :=
 ∀ q (h : q < ls.length), q < k → labelOk ls[q].data.toList = true ∧ (ls[q].toList == tauB) = decide (q = 0) ∧ ∀ (_ : 1 < q), strLess ls[q - 1] ls[q] = true

theorem GoodTo.succ {ls : List ByteArray} {k : Nat} (h : GoodTo ls k) (hk : k < ls.length) (h1 : labelOk ls[k].data.toList = true) (h2 : (ls[k].toList == tauB) = decide (k = 0)) (h3 : ∀ (_ : 1 < k), strLess ls[k - 1] ls[k] = true) : GoodTo ls (k + 1) := by
 intro q hq hlt
 by_cases e : q = k
 ·subst e; exact ⟨h1, h2, h3⟩
 ·exact h q hq (by omega)
theorem GoodTo.all {ls : List ByteArray} (h : GoodTo ls ls.length) (h1 : 1 ≤ ls.length) (h2 : ls.length ≤ 12) : LabelsOk ls :=
 ⟨h1, h2, fun hp => by simpa using (h 0 hp hp).2.1, fun i hi _ => (h i hi hi).1, fun i hi h1 => by
  have := (h i hi hi).2.1
  rw [decide_eq_false (by omega)] at this
  simpa using this, fun i hi h1 => (h (i + 1) hi hi).2.2 (by omega)⟩
theorem LabelsOk.all {ls : List ByteArray} (h : LabelsOk ls) (q : Nat) (hq : q < ls.length) : labelOk ls[q].data.toList = true := by
 by_cases e : q = 0
 ·subst e
  have := h.first hq
  rw [Lib.toList_data] at this
  rw [this]
  decide
 ·exact h.label q hq (by omega)

set_option maxRecDepth 100000 in
set_option maxHeartbeats 4000000 in
theorem ValidLts_any (lo : Nat) (t : Lts) (lv ev : Value) (w : World) (hsh : Short20 t.labels) (hl : SliceK 1 encS lo w lv t.labels) (he : SliceK 3 encE lo w ev t.edges) (g : Glob w) :
  Calls Tryz.prog 42 #[.agg #[.int .i64 t.states, .int .i64 t.initial, lv, ev]] w (Decides (Valid t) w) := by
 have HSH := Lib.hid hsh
 have G := Lib.hid g
 clear hsh g
 obtain ⟨al, cl, rfl, hln, hlc, hlr⟩ := hl
 obtain ⟨ae, ce, rfl, hen, hec, her⟩ := he
 have HLR := Lib.hid hlr
 have HER := Lib.hid her
 clear hlr her
 have HB0 : Hid (Below w.heap.size w (w.alloc (.cells #[.int .i64 t.states, .int .i64 t.initial, .slice al t.labels.length cl, .slice ae t.edges.length ce] 32))) := (Below.refl _ _).alloc (Nat.le_refl _) _
 cases hA : inB t.states 1 40
 ·have HA := Lib.hid hA
  clear hA
  go_enter Tryz.func42, Tryz.ntmps42
  go_wp2_with fail
  refine (within_is HA.out _).mono ?_
  rintro e w' ⟨rfl, rfl⟩
  go_wp2_with fail
  go_ret
  exact ⟨false, rfl, ⟨(fun h => by cases h), fun h => absurd ⟨h.st0, h.st1⟩ (inB_not HA.out)⟩, HB0.out⟩
 ·have hA1 : 1 ≤ t.states := (inB_iff.1 hA).1
  have hA2 : t.states ≤ 40 := (inB_iff.1 hA).2
  have HA := Lib.hid hA
  clear hA
  cases hB : inB t.initial 0 (t.states - 1)
  ·have HB := Lib.hid hB
   clear hB
   go_enter Tryz.func42, Tryz.ntmps42
   go_wp2_with fail
   refine (within_is HA.out _).mono ?_
   rintro e w' ⟨rfl, rfl⟩
   go_wp2_with fail
   refine (isState_is HB.out _ hA1 hA2).mono ?_
   rintro e w1 ⟨rfl, hb1⟩
   have HB1 := Lib.hid (HB0.out.trans (hb1.mono HB0.out.size))
   clear hb1
   go_wp2_with fail
   go_ret
   exact ⟨false, rfl, ⟨(fun h => by cases h), fun h => absurd ⟨h.in0, by have := h.in1; omega⟩ (inB_not HB.out)⟩, HB1.out⟩
  ·have HI : Hid (0 ≤ t.initial ∧ t.initial < t.states) := by unfold Hid; have := inB_iff.1 hB; omega
   have HB := Lib.hid hB
   clear hB
   cases hC : inB (t.labels.length : Int) 1 12
   ·have HC := Lib.hid hC
    clear hC
    go_enter Tryz.func42, Tryz.ntmps42
    go_wp2_with fail
    refine (within_is HA.out _).mono ?_
    rintro e w' ⟨rfl, rfl⟩
    go_wp2_with fail
    refine (isState_is HB.out _ hA1 hA2).mono ?_
    rintro e w1 ⟨rfl, hb1⟩
    have HB1 := Lib.hid (HB0.out.trans (hb1.mono HB0.out.size))
    have q2 : w1.cell? ⟨w.heap.size, 2, none⟩ = some (.slice al t.labels.length cl) := keeps hb1 (by simp) (by simp)
    clear hb1
    go_wp2_with fail
    refine (within_is HC.out _).mono ?_
    rintro e w' ⟨rfl, rfl⟩
    go_wp2_with fail
    go_ret
    exact ⟨false, rfl, ⟨(fun h => by cases h), fun h => by have h1 := h.labels.pos; have h2 := h.labels.most; exact (inB_not HC.out ⟨by omega, by omega⟩).elim⟩, HB1.out⟩
   ·have hC1 : 1 ≤ t.labels.length ∧ t.labels.length ≤ 12 := by have := inB_iff.1 hC; omega
    have HC := Lib.hid hC
    clear hC
    by_cases hD : 300 < (t.edges.length : Int)
    ·go_enter Tryz.func42, Tryz.ntmps42
     go_wp2_with fail
     refine (within_is HA.out _).mono ?_
     rintro e w' ⟨rfl, rfl⟩
     go_wp2_with fail
     refine (isState_is HB.out _ hA1 hA2).mono ?_
     rintro e w1 ⟨rfl, hb1⟩
     have HB1 := Lib.hid (HB0.out.trans (hb1.mono HB0.out.size))
     have q2 : w1.cell? ⟨w.heap.size, 2, none⟩ = some (.slice al t.labels.length cl) := keeps hb1 (by simp) (by simp)
     have q3 : w1.cell? ⟨w.heap.size, 3, none⟩ = some (.slice ae t.edges.length ce) := keeps hb1 (by simp) (by simp)
     clear hb1
     go_wp2_with fail
     refine (within_is HC.out _).mono ?_
     rintro e w' ⟨rfl, rfl⟩
     go_wp2_with fail
     go_ret
     exact ⟨false, rfl, ⟨(fun h => by cases h), fun h => by have h1 := h.most; omega⟩, HB1.out⟩
    ·go_enter Tryz.func42, Tryz.ntmps42
     go_wp2_with fail
     refine (within_is HA.out _).mono ?_
     rintro e w' ⟨rfl, rfl⟩
     go_wp2_with fail
     refine (isState_is HB.out _ hA1 hA2).mono ?_
     rintro e w1 ⟨rfl, hb1⟩
     have HB1 := Lib.hid (HB0.out.trans (hb1.mono HB0.out.size))
     have q0 : w1.cell? ⟨w.heap.size, 0, none⟩ = some (.int .i64 t.states) := keeps hb1 (by simp) (by simp)
     have q1 : w1.cell? ⟨w.heap.size, 1, none⟩ = some (.int .i64 t.initial) := keeps hb1 (by simp) (by simp)
     have q2 : w1.cell? ⟨w.heap.size, 2, none⟩ = some (.slice al t.labels.length cl) := keeps hb1 (by simp) (by simp)
     have q3 : w1.cell? ⟨w.heap.size, 3, none⟩ = some (.slice ae t.edges.length ce) := keeps hb1 (by simp) (by simp)
     have hbz : w.heap.size < w1.heap.size := by have := hb1.size; simp at this; omega
     clear hb1 HB0
     go_wp2_with fail
     refine (within_is HC.out _).mono ?_
     rintro e w' ⟨rfl, rfl⟩
     go_wp2_with fail
     have Q0 := Lib.hid q0
     have Q1 := Lib.hid q1
     have Q2 := Lib.hid q2
     have Q3 := Lib.hid q3
     have HLR1 := Lib.hid (HLR.out.below HB1.out)
     have HER1 := Lib.hid (HER.out.below HB1.out)
     have G1 := Lib.hid (G.out.below HB1.out)
     clear q0 q1 q2 q3 HLR HER G
     obtain ⟨b0, hb0⟩ : ∃ b0, b0 = w.heap.size := ⟨_, rfl⟩
     rw [← hb0] at hbz Q0 Q1 Q2 Q3
     simp only [← hb0]
     have HB00 := Lib.hid hb0
     clear hb0
     go_loopw [34] (fun i wr => ∃ k : Nat, k ≤ t.labels.length ∧ i = .int .i64 k ∧ Below w1.heap.size w1 wr ∧ GoodTo t.labels k) (fun i _ => t.labels.length - (intOf i).toNat)
     case atStart => exact ⟨0, Nat.zero_le _, rfl, Below.refl _ _, fun _ _ h => by omega⟩
     case round =>
      obtain ⟨k, hk, rfl, hbl, hgd⟩ := hrel
      have HBL := Lib.hid hbl
      have HGD := Lib.hid hgd
      have hsz := hbl.size
      clear hgd
      by_cases hlt : k < t.labels.length
      ·have hshk := HSH.out k hlt
       obtain ⟨bl, ol, rfl, -, hbs, c1⟩ := (HLR1.out.below hbl).one hlt
       simp only [encS, List.getElem?_cons_zero] at c1
       have q2 := keeps hbl hbz Q2.out
       obtain ⟨s, hs⟩ : ∃ s, s = t.labels[k] := ⟨_, rfl⟩
       rw [← hs] at c1 hshk
       have HS := Lib.hid hs
       have GR := Lib.hid (G1.out.below hbl)
       have HRR := Lib.hid (HLR1.out.below hbl)
       clear hs hbl
       cases h1 : labelOk s.data.toList
       ·have H1 := Lib.hid h1
        clear h1
        go_wp2_with fail
        refine (IsLabel_is H1.out _ hshk GR.out).mono ?_
        rintro e w2 ⟨rfl, hb2⟩
        have HB2 := Lib.hid (HBL.out.trans (hb2.mono hsz))
        clear hb2
        go_wp2_with fail
        go_ret
        refine ⟨false, rfl, ⟨(fun h => by cases h), fun h => ?_⟩, HB1.out.trans (HB2.out.mono HB1.out.size)⟩
        have := h.labels.all k hlt
        rw [← HS.out, H1.out] at this
        cases this
       ·have H1 := Lib.hid h1
        clear h1
        have HRL := Lib.hid (HLR1.out.below HBL.out)
        cases h2 : (s.toList == [116, 97, 117])
        ·have H2 : Hid ((t.labels[k].toList == tauB) = false) := by unfold Hid; rw [← HS.out]; exact h2
         rcases Nat.eq_zero_or_pos k with hk0 | hk0
         ·have hz : ((k : Int) == 0) = true := by rw [beq_iff_eq]; omega
          have HK0 : Hid (k = 0) := hk0
          clear hk0
          go_wp2_with fail
          refine (IsLabel_is H1.out _ hshk GR.out).mono ?_
          rintro e w2 ⟨rfl, hb2⟩
          have HB2 := Lib.hid (HBL.out.trans (hb2.mono hsz))
          clear hb2
          go_wp2_with fail
          go_ret
          refine ⟨false, rfl, ⟨(fun h => by cases h), fun h => ?_⟩, HB1.out.trans (HB2.out.mono HB1.out.size)⟩
          have hk0 : k = 0 := HK0.out
          subst hk0
          have h3 := h.labels.first hlt
          have h4 := H2.out
          rw [h3] at h4
          simp at h4
         ·have hz : ((k : Int) == 0) = false := by rw [beq_eq_false_iff_ne]; omega
          by_cases hk1 : 1 < k
          ·obtain ⟨m, rfl⟩ : ∃ m, k = m + 1 := ⟨k - 1, by omega⟩
           obtain ⟨_, _, e9, -, -, c0⟩ := HRL.out.one (show m < t.labels.length by omega)
           simp only [Option.some.injEq, Addr.mk.injEq, and_true] at e9
           obtain ⟨rfl, rfl⟩ := e9
           simp only [encS, List.getElem?_cons_zero] at c0
           obtain ⟨s0, hs0⟩ : ∃ s0, s0 = t.labels[m] := ⟨_, rfl⟩
           rw [← hs0] at c0
           have HS0 := Lib.hid hs0
           clear hs0
           cases h3 : Op.bytesLess s0.toList s.toList
           ·have h4 : (Op.bytesLess s.toList s0.toList || s.toList == s0.toList) = true := by rw [less_leq, h3]; rfl
            have H3 := Lib.hid h3
            clear h3
            go_wp2_with fail
            refine (IsLabel_is H1.out _ hshk GR.out).mono ?_
            rintro e w2 ⟨rfl, hb2⟩
            have q2' := keeps hb2 (by omega) q2
            have c0' := keeps hb2 hbs c0
            have HB2 := Lib.hid (HBL.out.trans (hb2.mono hsz))
            clear hb2
            go_wp2_with fail
            go_ret
            refine ⟨false, rfl, ⟨(fun h => by cases h), fun h => ?_⟩, HB1.out.trans (HB2.out.mono HB1.out.size)⟩
            have h5 := h.labels.rise m hlt (by omega)
            unfold strLess at h5
            rw [← HS0.out, ← HS.out, H3.out] at h5
            cases h5
           ·have h4 : (Op.bytesLess s.toList s0.toList || s.toList == s0.toList) = false := by rw [less_leq, h3]; rfl
            have H3 := Lib.hid h3
            clear h3
            go_wp2_with fail
            refine (IsLabel_is H1.out _ hshk GR.out).mono ?_
            rintro e w2 ⟨rfl, hb2⟩
            have q2' := keeps hb2 (by omega) q2
            have c0' := keeps hb2 hbs c0
            have HB2 := Lib.hid (HBL.out.trans (hb2.mono hsz))
            clear hb2
            go_wp2_with fail
            go_roundw
            case rel => exact ⟨m + 1 + 1, by omega, by go_num, HB2.out, HGD.out.succ hlt (by rw [← HS.out]; exact H1.out) (by rw [H2.out, decide_eq_false (by omega)]) (fun _ => by
             unfold strLess
             simp only [Nat.add_sub_cancel]
             rw [← HS0.out, ← HS.out]; exact H3.out)⟩
            case measure => simp [intOf]; omega
          ·have hk2 : decide (1 < (k : Int)) = false := by rw [decide_eq_false_iff_not]; omega
           have hk3 : ¬ 1 < (k : Int) := by omega
           go_wp2_with fail
           refine (IsLabel_is H1.out _ hshk GR.out).mono ?_
           rintro e w2 ⟨rfl, hb2⟩
           have HB2 := Lib.hid (HBL.out.trans (hb2.mono hsz))
           clear hb2
           go_wp2_with fail
           go_roundw
           case rel => exact ⟨k + 1, by omega, by go_num, HB2.out, HGD.out.succ hlt (by rw [← HS.out]; exact H1.out) (by rw [H2.out, decide_eq_false (by omega)]) (fun h => absurd h hk1)⟩
           case measure => simp [intOf]; omega
        ·have H2 : Hid ((t.labels[k].toList == tauB) = true) := by unfold Hid; rw [← HS.out]; exact h2
         rcases Nat.eq_zero_or_pos k with hk0 | hk0
         ·have hz : ((k : Int) == 0) = true := by rw [beq_iff_eq]; omega
          have HK0 : Hid (k = 0) := hk0
          have hk2 : decide (1 < (k : Int)) = false := by rw [decide_eq_false_iff_not]; omega
          have hk3 : ¬ 1 < (k : Int) := by omega
          clear hk0
          go_wp2_with fail
          refine (IsLabel_is H1.out _ hshk GR.out).mono ?_
          rintro e w2 ⟨rfl, hb2⟩
          have HB2 := Lib.hid (HBL.out.trans (hb2.mono hsz))
          clear hb2
          go_wp2_with fail
          go_roundw
          case rel => exact ⟨k + 1, by omega, by go_num, HB2.out, HGD.out.succ hlt (by rw [← HS.out]; exact H1.out) (by rw [H2.out, decide_eq_true HK0.out]) (fun h => by have := HK0.out; omega)⟩
          case measure => simp [intOf]; omega
         ·have hz : ((k : Int) == 0) = false := by rw [beq_eq_false_iff_ne]; omega
          go_wp2_with fail
          refine (IsLabel_is H1.out _ hshk GR.out).mono ?_
          rintro e w2 ⟨rfl, hb2⟩
          have HB2 := Lib.hid (HBL.out.trans (hb2.mono hsz))
          clear hb2
          go_wp2_with fail
          go_ret
          refine ⟨false, rfl, ⟨(fun h => by cases h), fun h => ?_⟩, HB1.out.trans (HB2.out.mono HB1.out.size)⟩
          have h3 := h.labels.other k hlt hk0
          have h4 := H2.out
          exact absurd (by simpa using h4) h3
      ·obtain rfl : k = t.labels.length := by omega
       have HLO : Hid (LabelsOk t.labels) := HGD.out.all hC1.1 hC1.2
       have q3 := keeps hbl hbz Q3.out
       clear HGD hbl HLR1 HSH G1
       obtain ⟨w2, hw2⟩ : ∃ w2, w2 = wr := ⟨_, rfl⟩
       go_wp2_with fail
       go_loopw [67] (fun i wr2 => ∃ k : Nat, k ≤ t.edges.length ∧ i = .int .i64 k ∧ Below w1.heap.size w1 wr2 ∧ (∀ q (h : q < t.edges.length), q < k → EdgeOk t t.edges[q]) ∧ (∀ q (h : q + 1 < t.edges.length), q + 1 < k → edgeLess t.edges[q] t.edges[q + 1] = true)) (fun i _ => t.edges.length - (intOf i).toNat)
       case atStart => exact ⟨0, Nat.zero_le _, rfl, HBL.out, fun _ _ h => by omega, fun _ _ h => by omega⟩
       case round =>
        obtain ⟨k, hk, rfl, hbl, hx1, hx2⟩ := hrel
        have HX1 := Lib.hid hx1
        have HX2 := Lib.hid hx2
        have HBE := Lib.hid hbl
        have hsz := hbl.size
        have q0 := keeps hbl hbz Q0.out
        have q1 := keeps hbl hbz Q1.out
        have q2 := keeps hbl hbz Q2.out
        have q3 := keeps hbl hbz Q3.out
        clear hx1 hx2 hbl
        by_cases hlt : k < t.edges.length
        ·have hml := hen
         obtain ⟨be, oe, rfl, -, hbe, e1, e2, e3⟩ := (HER1.out.below HBE.out).edge hlt
         have HROW := Lib.hid (HER1.out.below HBE.out)
         have HE := Lib.hid (show EdgeOk t t.edges[k] ↔ (inB t.edges[k].src 0 (t.states - 1) = true ∧ inB t.edges[k].dst 0 (t.states - 1) = true) ∧ inB t.edges[k].lab 0 ((t.labels.length : Int) - 1) = true from edgeOk_iff t _)
         obtain ⟨e, hee⟩ : ∃ e, e = t.edges[k] := ⟨_, rfl⟩
         rw [← hee] at e1 e2 e3 HE
         have HEE := Lib.hid hee
         clear hee
         have HO : Below wr.heap.size wr (wr.alloc (.cells #[.int .i64 e.src, .int .i64 e.lab, .int .i64 e.dst] 66)) := (Below.refl _ _).alloc (Nat.le_refl _) _
         have s0 := later_cell (w0 := wr.alloc (.cells #[.int .i64 e.src, .int .i64 e.lab, .int .i64 e.dst] 66)) (b := b0) (by simp; omega) (keeps HO (by omega) q0)
         have s1 := later_cell (w0 := wr.alloc (.cells #[.int .i64 e.src, .int .i64 e.lab, .int .i64 e.dst] 66)) (b := b0) (by simp; omega) (keeps HO (by omega) q1)
         have s2 := later_cell (w0 := wr.alloc (.cells #[.int .i64 e.src, .int .i64 e.lab, .int .i64 e.dst] 66)) (b := b0) (by simp; omega) (keeps HO (by omega) q2)
         have s3 := later_cell (w0 := wr.alloc (.cells #[.int .i64 e.src, .int .i64 e.lab, .int .i64 e.dst] 66)) (b := b0) (by simp; omega) (keeps HO (by omega) q3)
         have t0 := later_cell (w0 := wr.alloc (.cells #[.int .i64 e.src, .int .i64 e.lab, .int .i64 e.dst] 66)) (b := wr.heap.size) (o := 0) (v := .int .i64 e.src) (by simp) (by simp)
         have t1 := later_cell (w0 := wr.alloc (.cells #[.int .i64 e.src, .int .i64 e.lab, .int .i64 e.dst] 66)) (b := wr.heap.size) (o := 1) (v := .int .i64 e.lab) (by simp) (by simp)
         have t2 := later_cell (w0 := wr.alloc (.cells #[.int .i64 e.src, .int .i64 e.lab, .int .i64 e.dst] 66)) (b := wr.heap.size) (o := 2) (v := .int .i64 e.dst) (by simp) (by simp)
         have HO2 := Lib.hid HO
         rcases Nat.eq_zero_or_pos k with hk0 | hk0
         ·have hkz : ¬ (0 : Int) < (k : Int) := by omega
          have hkd : decide ((0 : Int) < (k : Int)) = false := by rw [decide_eq_false_iff_not]; exact hkz
          have hkd2 : decide (0 < k) = false := by rw [decide_eq_false_iff_not]; omega
          have hkz2 : ¬ 0 < k := by omega
          have HK0 : Hid (k = 0) := hk0
          clear hk0 HO hml
          cases g1 : inB e.src 0 (t.states - 1)
          ·have HG := Lib.hid g1
           go_wp2_with fail
           refine wp_region_later (by kernel_rfl) (by kernel_rfl) ?_
           repeat (go_big_quiet_step ((first | (go_at_call 45; exact later_call (isState_any _ _ _ _ _ _ hA1 hA2)) | (go_at_call 63; exact later_same (index_in _ _ _ (by omega) (by omega))))))
           refine wpQuiet_nil ?_
           intro _ hw9
           obtain ⟨nl, hw8⟩ := hw9
           subst hw8
           go_wp2_with fail
           go_ret
           refine ⟨false, rfl, ⟨(fun h => by cases h), fun h => ?_⟩, HB1.out.trans ((HBE.out.trans ((HO2.out.trans (nl.h.mono (by simp))).mono hsz)).mono HB1.out.size)⟩
           have h2 := h.edge k hlt
           rw [← HEE.out, HE.out, HG.out] at h2
           exact absurd h2.1.1 (by simp)
          ·cases g2 : inB e.dst 0 (t.states - 1)
           ·have HG := Lib.hid g2
            go_wp2_with fail
            refine wp_region_later (by kernel_rfl) (by kernel_rfl) ?_
            repeat (go_big_quiet_step ((first | (go_at_call 45; exact later_call (isState_any _ _ _ _ _ _ hA1 hA2)) | (go_at_call 63; exact later_same (index_in _ _ _ (by omega) (by omega))))))
            refine wpQuiet_nil ?_
            intro _ hw9
            obtain ⟨nl, hw8⟩ := hw9
            subst hw8
            go_wp2_with fail
            go_ret
            refine ⟨false, rfl, ⟨(fun h => by cases h), fun h => ?_⟩, HB1.out.trans ((HBE.out.trans ((HO2.out.trans (nl.h.mono (by simp))).mono hsz)).mono HB1.out.size)⟩
            have h2 := h.edge k hlt
            rw [← HEE.out, HE.out, HG.out] at h2
            exact absurd h2.1.2 (by simp)
           ·cases g3 : inB e.lab 0 ((t.labels.length : Int) - 1)
            ·have HG := Lib.hid g3
             go_wp2_with fail
             refine wp_region_later (by kernel_rfl) (by kernel_rfl) ?_
             repeat (go_big_quiet_step ((first | (go_at_call 45; exact later_call (isState_any _ _ _ _ _ _ hA1 hA2)) | (go_at_call 63; exact later_same (index_in _ _ _ (by omega) (by omega))))))
             refine wpQuiet_nil ?_
             intro _ hw9
             obtain ⟨nl, hw8⟩ := hw9
             subst hw8
             go_wp2_with fail
             go_ret
             refine ⟨false, rfl, ⟨(fun h => by cases h), fun h => ?_⟩, HB1.out.trans ((HBE.out.trans ((HO2.out.trans (nl.h.mono (by simp))).mono hsz)).mono HB1.out.size)⟩
             have h2 := h.edge k hlt
             rw [← HEE.out, HE.out, HG.out] at h2
             exact absurd h2.2 (by simp)
            ·have HEK : Hid (EdgeOk t t.edges[k]) := by unfold Hid; rw [← HEE.out, HE.out]; exact ⟨⟨g1, g2⟩, g3⟩
             go_wp2_with fail
             refine wp_region_later (by kernel_rfl) (by kernel_rfl) ?_
             repeat (go_big_quiet_step ((first | (go_at_call 45; exact later_call (isState_any _ _ _ _ _ _ hA1 hA2)) | (go_at_call 63; exact later_same (index_in _ _ _ (by omega) (by omega))))))
             refine wpQuiet_nil ?_
             intro _ hw9
             obtain ⟨nl, hw8⟩ := hw9
             subst hw8
             clear g1 g2 g3 t0 t1 t2 s0 s1 s2 s3
             go_wp2_with fail
             go_roundw
             case rel => exact ⟨k + 1, by omega, by go_num, HBE.out.trans ((HO2.out.trans (nl.h.mono (by simp))).mono hsz), fun q h h' => by
               obtain rfl : q = k := by have := HK0.out; omega
               exact HEK.out, fun q h h' => by have := HK0.out; omega⟩
             case measure => simp [intOf]; omega
         ·obtain ⟨m, rfl⟩ : ∃ m, k = m + 1 := ⟨k - 1, by omega⟩
          obtain ⟨_, _, e9, -, -, d1, d2, d3⟩ := HROW.out.edge (show m < t.edges.length by omega)
          simp only [Option.some.injEq, Addr.mk.injEq, and_true] at e9
          obtain ⟨rfl, rfl⟩ := e9
          replace d1 := later_cell (w0 := wr.alloc (.cells #[.int .i64 e.src, .int .i64 e.lab, .int .i64 e.dst] 66)) (b := be) (by simp; omega) (keeps HO hbe d1)
          replace d2 := later_cell (w0 := wr.alloc (.cells #[.int .i64 e.src, .int .i64 e.lab, .int .i64 e.dst] 66)) (b := be) (by simp; omega) (keeps HO hbe d2)
          replace d3 := later_cell (w0 := wr.alloc (.cells #[.int .i64 e.src, .int .i64 e.lab, .int .i64 e.dst] 66)) (b := be) (by simp; omega) (keeps HO hbe d3)
          have hkd : decide ((0 : Int) < (m : Int) + 1) = true := by rw [decide_eq_true_eq]; omega
          clear hk0 HO hml
          cases g1 : inB e.src 0 (t.states - 1)
          ·have HG := Lib.hid g1
           go_wp2_with fail
           refine wp_region_later (by kernel_rfl) (by kernel_rfl) ?_
           repeat (go_big_quiet_step ((first | (go_at_call 45; exact later_call (isState_any _ _ _ _ _ _ hA1 hA2)) | (go_at_call 63; exact later_same (index_in _ _ _ (by omega) (by omega))) | (go_at_call 64; exact later_call (compareEdges_any t.edges[m] e _)))))
           refine wpQuiet_nil ?_
           intro _ hw9
           obtain ⟨nl, hw8⟩ := hw9
           subst hw8
           go_wp2_with fail
           go_ret
           refine ⟨false, rfl, ⟨(fun h => by cases h), fun h => ?_⟩, HB1.out.trans ((HBE.out.trans ((HO2.out.trans (nl.h.mono (by simp))).mono hsz)).mono HB1.out.size)⟩
           have h2 := h.edge (m + 1) hlt
           rw [← HEE.out, HE.out, HG.out] at h2
           exact absurd h2.1.1 (by simp)
          ·cases g2 : inB e.dst 0 (t.states - 1)
           ·have HG := Lib.hid g2
            go_wp2_with fail
            refine wp_region_later (by kernel_rfl) (by kernel_rfl) ?_
            repeat (go_big_quiet_step ((first | (go_at_call 45; exact later_call (isState_any _ _ _ _ _ _ hA1 hA2)) | (go_at_call 63; exact later_same (index_in _ _ _ (by omega) (by omega))) | (go_at_call 64; exact later_call (compareEdges_any t.edges[m] e _)))))
            refine wpQuiet_nil ?_
            intro _ hw9
            obtain ⟨nl, hw8⟩ := hw9
            subst hw8
            go_wp2_with fail
            go_ret
            refine ⟨false, rfl, ⟨(fun h => by cases h), fun h => ?_⟩, HB1.out.trans ((HBE.out.trans ((HO2.out.trans (nl.h.mono (by simp))).mono hsz)).mono HB1.out.size)⟩
            have h2 := h.edge (m + 1) hlt
            rw [← HEE.out, HE.out, HG.out] at h2
            exact absurd h2.1.2 (by simp)
           ·cases g3 : inB e.lab 0 ((t.labels.length : Int) - 1)
            ·have HG := Lib.hid g3
             go_wp2_with fail
             refine wp_region_later (by kernel_rfl) (by kernel_rfl) ?_
             repeat (go_big_quiet_step ((first | (go_at_call 45; exact later_call (isState_any _ _ _ _ _ _ hA1 hA2)) | (go_at_call 63; exact later_same (index_in _ _ _ (by omega) (by omega))) | (go_at_call 64; exact later_call (compareEdges_any t.edges[m] e _)))))
             refine wpQuiet_nil ?_
             intro _ hw9
             obtain ⟨nl, hw8⟩ := hw9
             subst hw8
             go_wp2_with fail
             go_ret
             refine ⟨false, rfl, ⟨(fun h => by cases h), fun h => ?_⟩, HB1.out.trans ((HBE.out.trans ((HO2.out.trans (nl.h.mono (by simp))).mono hsz)).mono HB1.out.size)⟩
             have h2 := h.edge (m + 1) hlt
             rw [← HEE.out, HE.out, HG.out] at h2
             exact absurd h2.2 (by simp)
            ·have HEK : Hid (EdgeOk t t.edges[m + 1]) := by unfold Hid; rw [← HEE.out, HE.out]; exact ⟨⟨g1, g2⟩, g3⟩
             cases g4 : edgeLess t.edges[m] e
             ·have HG := Lib.hid g4
              have g5 : decide (0 ≤ cmpE t.edges[m] e) = true := by rw [cmpE_less, g4]; rfl
              clear g4
              go_wp2_with fail
              refine wp_region_later (by kernel_rfl) (by kernel_rfl) ?_
              repeat (go_big_quiet_step ((first | (go_at_call 45; exact later_call (isState_any _ _ _ _ _ _ hA1 hA2)) | (go_at_call 63; exact later_same (index_in _ _ _ (by omega) (by omega))) | (go_at_call 64; exact later_call (compareEdges_any t.edges[m] e _)))))
              refine wpQuiet_nil ?_
              intro _ hw9
              obtain ⟨nl, hw8⟩ := hw9
              subst hw8
              go_wp2_with fail
              go_ret
              refine ⟨false, rfl, ⟨(fun h => by cases h), fun h => ?_⟩, HB1.out.trans ((HBE.out.trans ((HO2.out.trans (nl.h.mono (by simp))).mono hsz)).mono HB1.out.size)⟩
              have h2 := h.rise m hlt
              rw [← HEE.out, HG.out] at h2
              cases h2
             ·have HG := Lib.hid g4
              have g5 : decide (0 ≤ cmpE t.edges[m] e) = false := by rw [cmpE_less, g4]; rfl
              clear g4
              go_wp2_with fail
              refine wp_region_later (by kernel_rfl) (by kernel_rfl) ?_
              repeat (go_big_quiet_step ((first | (go_at_call 45; exact later_call (isState_any _ _ _ _ _ _ hA1 hA2)) | (go_at_call 63; exact later_same (index_in _ _ _ (by omega) (by omega))) | (go_at_call 64; exact later_call (compareEdges_any t.edges[m] e _)))))
              refine wpQuiet_nil ?_
              intro _ hw9
              obtain ⟨nl, hw8⟩ := hw9
              subst hw8
              clear g1 g2 g3 g5 t0 t1 t2 s0 s1 s2 s3 d1 d2 d3
              go_wp2_with fail
              go_roundw
              case rel => exact ⟨m + 1 + 1, by omega, by go_num, HBE.out.trans ((HO2.out.trans (nl.h.mono (by simp))).mono hsz), fun q h h' => by
                by_cases e9 : q = m + 1
                ·subst e9; exact HEK.out
                ·exact HX1.out q h (by omega), fun q h h' => by
                by_cases e9 : q = m
                ·subst e9; rw [← HEE.out]; exact HG.out
                ·exact HX2.out q h (by omega)⟩
              case measure => simp [intOf]; omega
        ·go_wp2_with fail
         go_ret
         refine ⟨true, rfl, ⟨fun _ => ?_, fun _ => rfl⟩, HB1.out.trans (HBE.out.mono HB1.out.size)⟩
         exact ⟨hA1, hA2, HI.out.1, HI.out.2, HLO.out, by omega, fun q h => HX1.out q h (by omega), fun q h => HX2.out q h (by omega)⟩

end Go.Proofs.YtjoacldbgnphkaaGreatDoor

namespace Go.Proofs.YtjoacldbgnphkaaGreatDoor
open Go Go.RowKit

def idxI (P : Int → Bool) (xs : List Int) : Int := if xs.findIdx P < xs.length then (xs.findIdx P : Nat) else -1
theorem idxI_neg {P : Int → Bool} {xs : List Int} : idxI P xs = -1 ↔ ∀ x ∈ xs, P x = false := by
 unfold idxI
 by_cases h : xs.findIdx P < xs.length
 ·rw [if_pos h]
  refine ⟨fun e => by omega, fun h2 => ?_⟩
  obtain ⟨x, hx, hp⟩ := List.findIdx_lt_length.1 h
  rw [h2 x hx] at hp
  cases hp
 ·rw [if_neg h]
  refine ⟨fun _ x hx => ?_, fun _ => rfl⟩
  cases hp : P x
  ·rfl
  ·exact absurd (List.findIdx_lt_length.2 ⟨x, hx, hp⟩) h
theorem idxI_any {P : Int → Bool} {xs : List Int} : decide (0 ≤ idxI P xs) = xs.any P := by
 unfold idxI
 by_cases h : xs.findIdx P < xs.length
 ·rw [if_pos h]
  obtain ⟨x, hx, hp⟩ := List.findIdx_lt_length.1 h
  rw [List.any_eq_true.2 ⟨x, hx, hp⟩]
  simp
 ·rw [if_neg h]
  have : xs.any P = false := by
   rw [List.any_eq_false]
   intro x hx hp
   exact h (List.findIdx_lt_length.2 ⟨x, hx, hp⟩)
  rw [this]
  rfl
/-- A function of one element that answers P, and turns nothing that was there. -/
def AskI (fid : Nat) (caps : Array Value) (P : Int → Bool) (xs : List Int) (B : Nat) (w : World) : Prop :=
 ∀ w', Below B w w' → ∀ x ∈ xs, Calls Tryz.prog fid (#[.int .i64 x] ++ caps) w' fun e w'' => e = .returned (.bool (P x)) ∧ Below w'.heap.size w' w''

set_option maxRecDepth 100000 in
set_option maxHeartbeats 1000000 in
theorem IndexFuncI (lo : Nat) (v : Value) (xs : List Int) (fid : Nat) (caps : Array Value) (P : Int → Bool) (w : World) (hv : SliceK 1 encI lo w v xs) (eg : ∀ args w, (callFunc fid args).run Tryz.prog w = .ok (.enter fid args) w) (hP : AskI fid caps P xs w.heap.size w) :
  Calls Tryz.prog 65 #[v, .func (.func fid) #[] caps] w fun e w' => e = .returned (.int .i64 (idxI P xs)) ∧ Below w.heap.size w w' := by
 obtain ⟨a, c, rfl, hcn, hcc, hrow⟩ := hv
 have HR := Lib.hid hrow
 have HP := Lib.hid hP
 clear hP hrow
 go_enter Tryz.func65, Tryz.ntmps65
 go_wp2_with fail
 go_loopw [8] (fun i wr => ∃ k : Nat, k ≤ xs.length ∧ i = .int .i64 k ∧ Below w.heap.size w wr ∧ ∀ j (h : j < xs.length), j < k → P xs[j] = false) (fun i _ => xs.length - (intOf i).toNat)
 case atStart => exact ⟨0, Nat.zero_le _, rfl, Below.refl _ _, fun _ _ h => by omega⟩
 case round =>
  obtain ⟨k, hk, rfl, hbl, ha⟩ := hrel
  have HA := Lib.hid ha
  have HBL := Lib.hid hbl
  clear ha
  by_cases hlt : k < xs.length
  ·obtain ⟨b1, o1, rfl, -, hbs, c1⟩ := (HR.out.below hbl).one hlt
   simp only [encI, List.getElem?_cons_zero] at c1
   clear hbl
   obtain ⟨x, hx⟩ : ∃ x, x = xs[k] := ⟨_, rfl⟩
   rw [← hx] at c1
   have HX := Lib.hid hx
   have HC := Lib.hid (HP.out wr HBL.out x (by rw [hx]; exact List.getElem_mem _))
   obtain ⟨b, hb⟩ : ∃ b, b = P x := ⟨_, rfl⟩
   rw [← hb] at HC
   have HB := Lib.hid hb
   clear hb hx
   go_wp2_with fail
   refine Calls.mono HC.out ?_
   rintro e w1 ⟨rfl, hb1⟩
   have HB1 := Lib.hid (HBL.out.trans (hb1.mono HBL.out.size))
   clear hb1 c1
   cases b
   ·go_wp2_with fail
    go_roundw
    case rel => exact ⟨k + 1, by omega, by go_num, HB1.out, fun j h hj => by
     by_cases e : j = k
     ·subst e; rw [← HX.out]; exact HB.out.symm
     ·exact HA.out j h (by omega)⟩
    case measure => simp [intOf]; omega
   ·have HI : Hid (idxI P xs = (k : Int)) := by
     unfold Hid idxI
     have h1 : xs.findIdx P = k := by
      rw [List.findIdx_eq hlt]
      exact ⟨by rw [← HX.out]; exact HB.out.symm, fun j hj => HA.out j (by omega) hj⟩
     rw [h1, if_pos hlt]
    go_wp2_with fail
    go_ret
    exact ⟨ret_int HI.out.symm, HB1.out⟩
  ·clear hbl
   have HI : Hid (idxI P xs = -1) := by
    unfold Hid
    rw [idxI_neg]
    intro x hx
    obtain ⟨j, hj, rfl⟩ := List.mem_iff_getElem.1 hx
    exact HA.out j hj (by omega)
   go_wp2_with fail
   go_ret
   exact ⟨ret_int HI.out.symm, HBL.out⟩

theorem ContainsFuncI (lo : Nat) (v : Value) (xs : List Int) (fid : Nat) (caps : Array Value) (P : Int → Bool) (w : World) (hv : SliceK 1 encI lo w v xs) (eg : ∀ args w, (callFunc fid args).run Tryz.prog w = .ok (.enter fid args) w) (hP : AskI fid caps P xs w.heap.size w) :
  Calls Tryz.prog 43 #[v, .func (.func fid) #[] caps] w fun e w' => e = .returned (.bool (xs.any P)) ∧ Below w.heap.size w w' := by
 have HC := Lib.hid (IndexFuncI lo v xs fid caps P w hv eg hP)
 clear hP
 go_enter Tryz.func43, Tryz.ntmps43
 go_wp2_with fail
 refine Calls.mono HC.out ?_
 rintro e w' ⟨rfl, hb⟩
 have HB := Lib.hid hb
 clear hb
 go_wp2_with fail
 go_ret
 exact ⟨ret_bool idxI_any, HB.out⟩

end Go.Proofs.YtjoacldbgnphkaaGreatDoor

namespace Go.Proofs.YtjoacldbgnphkaaGreatDoor
open Go Go.RowKit

def outB (t : Lts) (xs : List Int) : Bool := xs.any fun x => !inB x 0 (t.states - 1)
set_option maxRecDepth 100000 in
set_option maxHeartbeats 1000000 in
theorem statesCode1_any (lv ev : Value) (t : Lts) (tb : Nat) (x : Int) (w : World) (hv : Valid t) (hT : Blk w tb [.int .i64 t.states, .int .i64 t.initial, lv, ev] 32) :
  Calls Tryz.prog 44 #[.int .i64 x, .pointer (some ⟨tb, 0, none⟩)] w fun e w' => e = .returned (.bool (!inB x 0 (t.states - 1))) ∧ Below w.heap.size w w' := by
 have x0 := hT.cell 0 rfl
 have x1 := hT.cell 1 rfl
 have x2 := hT.cell 2 rfl
 have x3 := hT.cell 3 rfl
 have HIS := Lib.hid (isState_any lv ev t.states t.initial x w hv.st0 hv.st1)
 clear hT
 go_enter Tryz.func44, Tryz.ntmps44
 go_wp2_with fail
 refine Calls.mono HIS.out ?_
 rintro e w1 ⟨rfl, hb1⟩
 have HB := Lib.hid hb1
 clear hb1 HIS
 go_wp2
 go_ret
 exact ⟨rfl, HB.out⟩

set_option maxRecDepth 100000 in
set_option maxHeartbeats 2000000 in
theorem statesCode_any (lo lo2 : Nat) (t : Lts) (lv ev sv : Value) (xs : List Int) (w : World) (hsh : Short20 t.labels) (hl : SliceK 1 encS lo w lv t.labels) (he : SliceK 3 encE lo w ev t.edges) (hx : SliceK 1 encI lo2 w sv xs) (g : Glob w) :
  Calls Tryz.prog 25 #[.agg #[.int .i64 t.states, .int .i64 t.initial, lv, ev], sv] w fun e w' => Below w.heap.size w w' ∧ ∃ c : Int, e = .returned (.int .i64 c) ∧ ((¬ Valid t ∧ c = 1) ∨ (Valid t ∧ outB t xs = true ∧ c = 2) ∨ (Valid t ∧ outB t xs = false ∧ c = 0)) := by
 obtain ⟨tb, htb⟩ : ∃ tb, tb = w.heap.size := ⟨_, rfl⟩
 obtain ⟨wA, hwA⟩ : ∃ wA, wA = w.alloc (.cells #[.int .i64 t.states, .int .i64 t.initial, lv, ev] 32) := ⟨_, rfl⟩
 have hbA : Below w.heap.size w wA := by rw [hwA]; exact (Below.refl _ _).alloc (Nat.le_refl _) _
 have hT : Blk wA tb [.int .i64 t.states, .int .i64 t.initial, lv, ev] 32 := by rw [hwA, htb]; exact Blk.new w _ _
 have HVL := Lib.hid (ValidLts_any lo t lv ev wA hsh (hl.below hbA) (he.below hbA) (g.below hbA))
 have HX := Lib.hid hx
 have HBA := Lib.hid hbA
 have HT := Lib.hid hT
 have HWA := Lib.hid hwA
 have HTB := Lib.hid htb
 have hsW : w.heap.size ≤ wA.heap.size := hbA.size
 clear hsh hl he hwA hbA hT htb hx g
 by_cases hv : Valid t
 ·have HV := Lib.hid hv
  have HVA : Hid (Calls Tryz.prog 42 #[.agg #[.int .i64 t.states, .int .i64 t.initial, lv, ev]] wA fun e w' => e = .returned (.bool true) ∧ Below wA.heap.size wA w') := Decides.yes HVL.out hv
  clear hv HVL
  go_enter Tryz.func25, Tryz.ntmps25
  go_wp2_with fail
  rw [← HWA.out]
  (try rw [← HTB.out])
  refine Calls.mono HVA.out ?_
  rintro e w1 ⟨rfl, hb1⟩
  have HB1 : Hid (Below w.heap.size w w1) := HBA.out.trans (hb1.mono hsW)
  have HT1 := Lib.hid (HT.out.below hb1)
  have HCF := Lib.hid (ContainsFuncI lo2 sv xs 44 #[.pointer (some ⟨tb, 0, none⟩)] (fun x => !inB x 0 (t.states - 1)) w1 (HX.out.below HB1.out) (fun args w => by kernel_rfl) (fun w' hb x _ => statesCode1_any lv ev t tb x w' HV.out (HT1.out.below hb)))
  clear hb1 HVA
  go_wp2_with fail
  (try rw [← HTB.out])
  refine Calls.mono HCF.out ?_
  rintro e w2 ⟨rfl, hb2⟩
  have HB2 : Hid (Below w.heap.size w w2) := HB1.out.trans (hb2.mono HB1.out.size)
  obtain ⟨o, ho⟩ : ∃ o, o = outB t xs := ⟨_, rfl⟩
  have HO := Lib.hid ho
  unfold outB at ho
  rw [← ho]
  clear ho hb2 HCF
  cases o
  ·go_wp2
   go_ret
   exact ⟨HB2.out, _, rfl, .inr (.inr ⟨HV.out, HO.out.symm, rfl⟩)⟩
  ·go_wp2
   go_ret
   exact ⟨HB2.out, _, rfl, .inr (.inl ⟨HV.out, HO.out.symm, rfl⟩)⟩
 ·have HNV := Lib.hid hv
  have HVA : Hid (Calls Tryz.prog 42 #[.agg #[.int .i64 t.states, .int .i64 t.initial, lv, ev]] wA fun e w' => e = .returned (.bool false) ∧ Below wA.heap.size wA w') := Decides.no HVL.out hv
  clear hv HVL
  go_enter Tryz.func25, Tryz.ntmps25
  go_wp2_with fail
  rw [← HWA.out]
  (try rw [← HTB.out])
  refine Calls.mono HVA.out ?_
  rintro e w1 ⟨rfl, hb1⟩
  have HB1 : Hid (Below w.heap.size w w1) := HBA.out.trans (hb1.mono hsW)
  clear hb1 HVA
  go_wp2
  go_ret
  exact ⟨HB1.out, _, rfl, .inl ⟨HNV.out, rfl⟩⟩

end Go.Proofs.YtjoacldbgnphkaaGreatDoor

namespace Go.Proofs.YtjoacldbgnphkaaGreatDoor
open Go Go.RowKit


/-- The pairs whose formulas stand in the table: those that part earlier, and those of this round that were placed before. -/
def Placed (t : Lts) (k a b x y : Nat) : Prop := 0 < sepR t x y ∧ (sepR t x y < k ∨ (sepR t x y = k ∧ (x < a ∨ (x = a ∧ y < b))))
structure TabO (B : Nat) (w : World) (ta S N : Nat) (t : Lts) (k a b : Nat) (hs : List Value) : Prop where
 sq : N = S * S
 own : w.ownsRow B 27 1 (.slice (some ⟨ta, 0, none⟩) N N) N hs
 row : ∀ x y, x < S → y < S → ∀ h : x * S + y < hs.length, Placed t k a b x y → SliceK 4 encN (ta + 1) w hs[x * S + y] (tellT t x y)
variable {B ta S N : Nat} {t : Lts} {k a b : Nat} {hs : List Value} {w w' : World}
theorem TabO.len (h : TabO B w ta S N t k a b hs) : hs.length = N := by have := h.own.1; omega
theorem TabO.below (h : TabO B w ta S N t k a b hs) (hb : Below w.heap.size w w') : TabO B w' ta S N t k a b hs := ⟨h.sq, owns_below h.own hb, fun x y hx hy hl hp => (h.row x y hx hy hl hp).below hb⟩
theorem TabO.weak {k' a' b' : Nat} (h : TabO B w ta S N t k a b hs) (hi : ∀ x y, x < S → y < S → Placed t k' a' b' x y → Placed t k a b x y) : TabO B w ta S N t k' a' b' hs := ⟨h.sq, h.own, fun x y hx hy hl hp => h.row x y hx hy hl (hi x y hx hy hp)⟩
theorem TabO.skip (h : TabO B w ta S N t k a b hs) (hn : sepR t a b ≠ k) : TabO B w ta S N t k a (b + 1) hs := h.weak fun x y _ _ hp => ⟨hp.1, hp.2.elim .inl fun h2 => by
 rcases h2 with ⟨e, h3 | ⟨rfl, h3⟩⟩
 ·exact .inr ⟨e, .inl h3⟩
 ·by_cases hy : y = b
  ·subst hy; exact absurd e hn
  ·exact .inr ⟨e, .inr ⟨rfl, by omega⟩⟩⟩
theorem TabO.nextA (h : TabO B w ta S N t k a S hs) : TabO B w ta S N t k (a + 1) 0 hs := h.weak fun x y _ hy hp => ⟨hp.1, hp.2.elim .inl fun h2 => .inr ⟨h2.1, by
 rcases h2.2 with h3 | h3
 ·by_cases hx : x = a
  ·exact .inr ⟨hx, hy⟩
  ·exact .inl (by omega)
 ·omega⟩⟩
theorem TabO.nextK (h : TabO B w ta S N t k S 0 hs) : TabO B w ta S N t (k + 1) 0 0 hs := h.weak fun x y hx _ hp => ⟨hp.1, by
 rcases hp.2 with h2 | h2
 ·by_cases e : sepR t x y = k
  ·exact .inr ⟨e, .inl hx⟩
  ·exact .inl (by omega)
 ·have := h2.2; omega⟩
theorem TabO.start {B : Nat} {w : World} {ta S N : Nat} {t : Lts} (hN : N = S * S) (h : w.ownsRow B 27 1 (.slice (some ⟨ta, 0, none⟩) N N) N (List.replicate N (.slice none 0 0))) : TabO B w ta S N t 1 0 0 (List.replicate N (.slice none 0 0)) :=
 ⟨hN, h, fun x y _ _ _ hp => by have := hp.1; have := hp.2; omega⟩
theorem TabO.put (h : TabO B w ta S N t k a b hs) (hb : Below w.heap.size w w') (haS : a < S) (hbS : b < S) {v : Value} (hv : SliceK 4 encN (ta + 1) w' v (tellT t a b)) {i : Nat} (hi : i = a * S + b) :
  TabO B (w'.setCell ⟨ta, i, none⟩ v) ta S N t k a (b + 1) (hs.set i v) := by
 subst hi
 have hp := place_ltM haS hbS
 have hl := h.len
 have hq := h.sq
 have h1 := (owns_below h.own hb).stored (a * S + b) v
 refine ⟨h.sq, h1.1, fun x y hx hy hl2 hp2 => ?_⟩
 have hne : ∀ k, some ta = some k → k < ta + 1 := fun k e => by cases e; omega
 by_cases he : a * S + b = x * S + y
 ·obtain ⟨rfl, rfl⟩ := place_inj hbS hy he
  rw [List.getElem_set_self]
  exact hv.grown h1.2 hne
 ·rw [List.getElem_set_ne he]
  have hl3 : x * S + y < hs.length := by simpa using hl2
  refine ((h.row x y hx hy hl3 ⟨hp2.1, hp2.2.elim .inl fun h2 => .inr ⟨h2.1, ?_⟩⟩).below hb).grown h1.2 hne
  rcases h2.2 with h3 | ⟨rfl, h3⟩
  ·exact .inl h3
  ·refine .inr ⟨rfl, ?_⟩
   have : y ≠ b := fun e => he (by rw [e])
   omega
theorem TabO.cell (h : TabO B w ta S N t k a b hs) {i : Nat} (hi : i < hs.length) : w.cell? ⟨ta, i, none⟩ = some hs[i] := by
 have h1 := h.own.cellAt i (by have := h.len; omega)
 rw [h1, List.getElem?_eq_getElem hi]
theorem TabO.tab (h : TabO B w ta S N t (k + 1) a b hs) (hlt : ta < w.heap.size) : TabR w (.slice (some ⟨ta, 0, none⟩) N N) S t k := by
 obtain rfl := h.sq
 exact ⟨ta, S * S, hs, rfl, hlt, h.len, fun i hi => h.cell hi, fun x y hx hy hl h0 h1 => (h.row x y hx hy hl ⟨h0, .inl (by omega)⟩).mono (Nat.zero_le _)⟩

/-- Of what DistinguishingFormula returns. -/
def DfIs (t : Lts) (a b : Int) (f : List Nd) (code : Int) : Prop :=
 (¬ Valid t ∧ f = [] ∧ code = 1) ∨ (Valid t ∧ ¬ ((0 ≤ a ∧ a < t.states) ∧ (0 ≤ b ∧ b < t.states)) ∧ f = [] ∧ code = 2) ∨
 (Valid t ∧ ((0 ≤ a ∧ a < t.states) ∧ (0 ≤ b ∧ b < t.states)) ∧ ((sepR t a b = 0 ∧ f = [] ∧ code = 3) ∨ (0 < sepR t a b ∧ tellT t a b = [] ∧ f = [] ∧ code = 5) ∨ (0 < sepR t a b ∧ tellT t a b ≠ [] ∧ f = tellT t a b ∧ code = 0)))
theorem DfIs.unique {t : Lts} {a b : Int} {f f' : List Nd} {code code' : Int} (h : DfIs t a b f code) (h' : DfIs t a b f' code') : f = f' ∧ code = code' := by
 rcases h with ⟨h1, rfl, rfl⟩ | ⟨h1, h2, rfl, rfl⟩ | ⟨h1, h2, h3⟩
 ·rcases h' with ⟨k1, rfl, rfl⟩ | ⟨k1, -⟩ | ⟨k1, -⟩
  ·exact ⟨rfl, rfl⟩
  ·exact absurd k1 h1
  ·exact absurd k1 h1
 ·rcases h' with ⟨k1, -⟩ | ⟨k1, k2, rfl, rfl⟩ | ⟨k1, k2, -⟩
  ·exact absurd h1 k1
  ·exact ⟨rfl, rfl⟩
  ·exact absurd k2 h2
 ·rcases h' with ⟨k1, -⟩ | ⟨k1, k2, -⟩ | ⟨k1, k2, k3⟩
  ·exact absurd h1 k1
  ·exact absurd h2 k2
  ·rcases h3 with ⟨e1, rfl, rfl⟩ | ⟨e1, e2, rfl, rfl⟩ | ⟨e1, e2, rfl, rfl⟩
   ·rcases k3 with ⟨g1, rfl, rfl⟩ | ⟨g1, -⟩ | ⟨g1, -⟩
    ·exact ⟨rfl, rfl⟩
    ·omega
    ·omega
   ·rcases k3 with ⟨g1, -⟩ | ⟨g1, g2, rfl, rfl⟩ | ⟨g1, g2, -⟩
    ·omega
    ·exact ⟨rfl, rfl⟩
    ·exact absurd e2 g2
   ·rcases k3 with ⟨g1, -⟩ | ⟨g1, g2, -⟩ | ⟨g1, g2, rfl, rfl⟩
    ·omega
    ·exact absurd g2 e2
    ·exact ⟨rfl, rfl⟩
theorem DfIs.few {t : Lts} {a b : Int} {f : List Nd} {code : Int} (h : DfIs t a b f code) : f.length ≤ 200 := by
 rcases h with ⟨-, rfl, -⟩ | ⟨-, -, rfl, -⟩ | ⟨-, -, ⟨-, rfl, -⟩ | ⟨-, -, rfl, -⟩ | ⟨-, -, rfl, -⟩⟩
 ·simp
 ·simp
 ·simp
 ·simp
 ·exact tellT_short t a b
def RetDf (t : Lts) (a b : Int) (w : World) (e : Ending) (w' : World) : Prop :=
 Below w.heap.size w w' ∧ ∃ (f : List Nd) (code : Int) (v : Value), e = .returned (.tuple #[v, .int .i64 code]) ∧ DfIs t a b f code ∧ FormO w.heap.size w' v f
theorem df_none {t : Lts} {a b : Int} {code : Int} {w w' : World} (hb : Below w.heap.size w w') (h : DfIs t a b [] code) : RetDf t a b w (.returned (.tuple #[.slice none 0 0, .int .i64 code])) w' :=
 ⟨hb, [], code, _, rfl, h, World.ownsRow_nil _ _ _ _⟩

end Go.Proofs.YtjoacldbgnphkaaGreatDoor
