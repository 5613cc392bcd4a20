/-
  What the small functions of the package laws compute: the size of the arguments, their copies, their comparison.
  The copies of the arguments that the package laws makes.
  What the functions of the laws that mark do.
  The texts that marks are, lists of texts and edges marked, and that the marks still stand.
  A pile of rows of the call's own, no two in one block; a slice of such rows.
  A system of the call's own: how it lies in memory.
  Marks in edges and in systems of the call's own, and that they still stand.
  DeterminizeLts: the reference's and the implementation's.
-/
import Derived.Test.YtodojigmhlkpeaaGreatDoorRows
import Derived.Test.YtodojigmhlkpeaaGreatDoorF1
import Derived.BigQuiet
import Derived.Deep.QuietTactic
import Derived.Deep.LoopGhost
import Derived.Test.YtodojigmhlkpeaaGreatDoorF14
namespace Go.Proofs.YtodojigmhlkpeaaGreatDoor
open Go Go.RowKit

def szS (ss : List ByteArray) (left : Int) : Int :=
 match ss with
 | [] => left
 | s :: r => if left - s.size < 0 then -1 else szS r (left - s.size)

theorem szS_lt (ss : List ByteArray) (left : Int) (h : 0 ≤ left) : -1 ≤ szS ss left ∧ szS ss left ≤ left := by
 induction ss generalizing left with
 | nil => simp [szS]; omega
 | cons s r ih =>
  unfold szS
  split
  ·omega
  ·have := ih (left - s.size) (by omega); omega

/-- What szStringS returns. -/
def szSS (ss : List ByteArray) (left : Int) : Int := if left - ss.length < 0 then -1 else szS ss (left - ss.length)
theorem szSS_neg {ss : List ByteArray} {left : Int} (h : left - ss.length < 0) : szSS ss left = -1 := by unfold szSS; rw [if_pos h]
theorem szSS_pos {ss : List ByteArray} {left : Int} (h : ¬ left - ss.length < 0) : szSS ss left = szS ss (left - ss.length) := by unfold szSS; rw [if_neg h]
def szN (n : Nat) (left : Int) : Int := if left - n < 0 then -1 else left - n
theorem szN_neg {n : Nat} {left : Int} (h : left - n < 0) : szN n left = -1 := by unfold szN; rw [if_pos h]
theorem szN_pos {n : Nat} {left : Int} (h : ¬ left - n < 0) : szN n left = left - n := by unfold szN; rw [if_neg h]

set_option maxHeartbeats 400000 in
theorem szStringS_any (v : Value) (lo : Nat) (ss : List ByteArray) (left : Int) (w : World)
   (h1 : 0 ≤ left) (h2 : left ≤ 1048576) (hs : StrsOk ss) (hv : SliceK 1 encS lo w v ss) :
  Calls Tryz.prog 14 #[v, .int .i64 left] w fun e w' => e = .returned (.int .i64 (szSS ss left)) ∧ w = w' := by
 have hS := Lib.hid hs
 clear hs
 obtain ⟨a, cap, rfl, hn, hcap, hr⟩ := hv
 by_cases hl : left - ss.length < 0
 ·go_enter Tryz.func14, Tryz.ntmps14
  go_wp2
  go_ret
  exact ⟨ret_int (szSS_neg hl).symm, rfl⟩
 ·go_enter Tryz.func14, Tryz.ntmps14
  go_wp2
  go_loop [1, 5] (fun t i => ∃ k : Nat, ∃ l : Int, k ≤ ss.length ∧ i = .int .i64 k ∧ t = .int .i64 l ∧ 0 ≤ l ∧ l ≤ 1048576 ∧ szS (ss.drop k) l = szS ss (left - ss.length)) (fun _ i => ss.length - (intOf i).toNat)
  case atStart => exact ⟨0, _, Nat.zero_le _, rfl, rfl, by omega, by omega, rfl⟩
  case round =>
   obtain ⟨k, l, hk, rfl, rfl, hl0, hl1, hs⟩ := hrel
   have hs' := Lib.hid hs
   clear hs
   by_cases hlt : k < ss.length
   ·have hsk := hS.out _ (List.getElem_mem hlt)
    obtain ⟨b, off, rfl, -, -, hck⟩ := hr.one hlt
    simp only [encS, List.getElem?_cons_zero] at hck
    clear hr
    have hd : Hid (szS (ss.drop k) l = if l - (ss[k]).size < 0 then -1 else szS (ss.drop (k+1)) (l - (ss[k]).size)) := by
     unfold Hid; rw [List.drop_eq_getElem_cons hlt, szS]
    by_cases hz : l - (ss[k]).size < 0
    ·go_wp2
     go_ret
     refine ⟨?_, rfl⟩
     exact ret_int (by rw [szSS_pos (by omega), ← hs'.out, hd.out, if_pos (by omega)])
    ·go_wp2
     go_round
     case rel => exact ⟨k+1, _, by omega, by go_num, rfl, by omega, by omega, by rw [← hs'.out, hd.out, if_neg (by omega)]⟩
     case measure => simp [intOf]; omega
   ·clear hr
    go_wp2
    go_ret
    refine ⟨?_, rfl⟩
    have : k = ss.length := by omega
    exact ret_int (by rw [szSS_pos (by omega), ← hs'.out]; simp [this, szS])

theorem szEdgeS_any (a : Option Addr) (cap n : Nat) (left : Int) (w : World) (h1 : 0 ≤ left) (h2 : left ≤ 1048576) (hn : n ≤ cap) (hcap : cap ≤ 9223372036854775807) :
  Calls Tryz.prog 15 #[.slice a n cap, .int .i64 left] w fun e w' => e = .returned (.int .i64 (szN n left)) ∧ w = w' := by
 by_cases hl : left - n < 0
 ·go_enter Tryz.func15, Tryz.ntmps15
  go_wp2
  go_ret
  exact ⟨ret_int (szN_neg hl).symm, rfl⟩
 ·go_enter Tryz.func15, Tryz.ntmps15
  go_wp2
  go_ret
  exact ⟨ret_int (szN_pos (by omega)).symm, rfl⟩

/-- What szLts returns. -/
def szL (t : Lts) (left : Int) : Int :=
 if szSS t.labels left < 0 then -1
 else if szN t.edges.length (szSS t.labels left) < 0 then -1
 else szN t.edges.length (szSS t.labels left)

theorem szSS_le (ss : List ByteArray) (left : Int) (h : 0 ≤ left) : -1 ≤ szSS ss left ∧ szSS ss left ≤ left := by
 unfold szSS
 split
 ·omega
 ·have := szS_lt ss (left - ss.length) (by omega); omega

set_option maxHeartbeats 400000 in
theorem szLts_any (v : Value) (lo : Nat) (t : Lts) (left : Int) (w : World)
   (h1 : 0 ≤ left) (h2 : left ≤ 1048576) (hs : StrsOk t.labels) (hv : LtsAt lo w v t) :
  Calls Tryz.prog 4 #[v, .int .i64 left] w
   fun e w' => e = .returned (.int .i64 (szL t left)) ∧ Below w.heap.size w w' := by
 have hb := szSS_le t.labels left h1
 have hS := Lib.hid hs
 clear hs
 obtain ⟨lv, ev, rfl, hl, ae, ce, rfl, hn, hcap, hr⟩ := hv
 go_enter Tryz.func4, Tryz.ntmps4
 go_wp2_with fail
 refine (szStringS_any _ _ _ _ _ h1 h2 hS.out (hl.below ((Below.refl _ w).alloc (Nat.le_refl _) _))).mono ?_
 clear hl hr
 rintro e w' ⟨rfl, rfl⟩
 have hf : Hid (szL t left = if szSS t.labels left < 0 then -1 else if szN t.edges.length (szSS t.labels left) < 0 then -1 else szN t.edges.length (szSS t.labels left)) := rfl
 generalize szSS t.labels left = q at *
 by_cases hl : q < 0
 ·go_wp2_with fail
  go_ret
  exact ⟨ret_int (by rw [hf.out, if_pos hl]), (Below.refl _ _).alloc (Nat.le_refl _) _⟩
 ·go_wp2_with fail
  refine (szEdgeS_any _ _ _ _ _ (by omega) (by omega) hn hcap).mono ?_
  rintro e w' ⟨rfl, rfl⟩
  generalize szN t.edges.length q = q2 at *
  by_cases hl2 : q2 < 0
  ·go_wp2_with fail
   go_ret
   exact ⟨ret_int (by rw [hf.out, if_neg (by omega), if_pos (by omega)]), (Below.refl _ _).alloc (Nat.le_refl _) _⟩
  ·go_wp2_with fail
   go_ret
   exact ⟨ret_int (by rw [hf.out, if_neg (by omega), if_neg (by omega)]), (Below.refl _ _).alloc (Nat.le_refl _) _⟩

set_option maxHeartbeats 400000 in
theorem eqStringS_same (va vb : Value) (lo lo' : Nat) (xs : List ByteArray) (w : World) (hva : SliceK 1 encS lo w va xs) (hvb : SliceK 1 encS lo' w vb xs) :
  Calls Tryz.prog 23 #[va, vb] w fun e w' => e = .returned (.bool true) ∧ Below w.heap.size w w' := by
 obtain ⟨a, ca, rfl, hna, hca, ha⟩ := hva
 obtain ⟨b, cb, rfl, hnb, hcb, hb⟩ := hvb
 go_enter Tryz.func23, Tryz.ntmps23
 go_wp2
 go_loopw [5] (fun i wr => ∃ k : Nat, k ≤ xs.length ∧ i = .int .i64 k ∧ Below w.heap.size w wr) (fun i _ => xs.length - (intOf i).toNat)
 case atStart => exact ⟨0, Nat.zero_le _, rfl, Below.refl _ _⟩
 case round =>
  obtain ⟨k, hk, rfl, hbl⟩ := hrel
  by_cases hlt : k < xs.length
  ·obtain ⟨b1, o1, rfl, -, h1, c1⟩ := ha.one hlt
   obtain ⟨b2, o2, rfl, -, h2, c2⟩ := hb.one hlt
   simp only [encS, List.getElem?_cons_zero] at c1 c2
   replace c1 := keeps hbl h1 c1
   replace c2 := keeps hbl h2 c2
   clear ha hb
   go_wp2
   go_quiet (fail)
   go_wp2
   go_roundw
   case rel => exact ⟨k + 1, by omega, by go_num, drews hbl _⟩
   case measure => simp [intOf]; omega
  ·clear ha hb
   go_wp2
   go_ret
   exact ⟨rfl, hbl⟩

set_option maxHeartbeats 400000 in
theorem eqEdge_same (x y z : Int) (w : World) :
  Calls Tryz.prog 53 #[.agg #[.int .i64 x, .int .i64 y, .int .i64 z], .agg #[.int .i64 x, .int .i64 y, .int .i64 z]] w fun e w' => e = .returned (.bool true) ∧ Below w.heap.size w w' := by
 go_enter Tryz.func53, Tryz.ntmps53
 go_wp2
 go_ret
 exact ⟨rfl, ((Below.refl _ _).alloc (Nat.le_refl _) _).alloc (by simp) _⟩

set_option maxHeartbeats 400000 in
theorem eqEdgeS_same (va vb : Value) (lo lo' : Nat) (xs : List Edge) (w : World) (hva : SliceK 3 encE lo w va xs) (hvb : SliceK 3 encE lo' w vb xs) :
  Calls Tryz.prog 24 #[va, vb] w fun e w' => e = .returned (.bool true) ∧ Below w.heap.size w w' := by
 obtain ⟨a, ca, rfl, hna, hca, ha⟩ := hva
 obtain ⟨b, cb, rfl, hnb, hcb, hb⟩ := hvb
 go_enter Tryz.func24, Tryz.ntmps24
 go_wp2
 go_loopw [5] (fun i wr => ∃ k : Nat, k ≤ xs.length ∧ i = .int .i64 k ∧ Below w.heap.size w wr) (fun i _ => xs.length - (intOf i).toNat)
 case atStart => exact ⟨0, Nat.zero_le _, rfl, Below.refl _ _⟩
 case round =>
  obtain ⟨k, hk, rfl, hbl⟩ := hrel
  by_cases hlt : k < xs.length
  ·obtain ⟨b1, o1, rfl, -, h1, c1, c2, c3⟩ := (ha.below hbl).edge hlt
   obtain ⟨b2, o2, rfl, -, h2, c4, c5, c6⟩ := (hb.below hbl).edge hlt
   replace c1 := later_cell h1 c1
   replace c2 := later_cell h1 c2
   replace c3 := later_cell h1 c3
   replace c4 := later_cell h2 c4
   replace c5 := later_cell h2 c5
   replace c6 := later_cell h2 c6
   clear ha hb
   go_wp2
   refine wp_region_later (by kernel_rfl) (by kernel_rfl) ?_
   repeat (go_big_quiet_step ((go_at_call 53; exact later_call (eqEdge_same _ _ _ _))))
   refine wpQuiet_nil ?_
   intro _ hw9
   obtain ⟨nl, hw8⟩ := hw9
   subst hw8
   go_wp2
   go_roundw
   case rel => exact ⟨k + 1, by omega, by go_num, hbl.trans (nl.h.mono hbl.size)⟩
   case measure => simp [intOf]; omega
  ·clear ha hb
   go_wp2
   go_ret
   exact ⟨rfl, hbl⟩

set_option maxHeartbeats 400000 in
theorem eqLts_same (va vb : Value) (lo lo' : Nat) (t : Lts) (w : World) (hva : LtsAt lo w va t) (hvb : LtsAt lo' w vb t) :
  Calls Tryz.prog 8 #[va, vb] w fun e w' => e = .returned (.bool true) ∧ Below w.heap.size w w' := by
 obtain ⟨la, ea, rfl, h1, h2⟩ := hva
 obtain ⟨lb, eb, rfl, h3, h4⟩ := hvb
 have hw0 : ∀ o1 o2, Below w.heap.size w ((w.alloc o1).alloc o2) := fun _ _ => ((Below.refl _ _).alloc (Nat.le_refl _) _).alloc (by simp) _
 have H0 := Lib.hid hw0
 have H1 := Lib.hid h1
 have H2 := Lib.hid h2
 have H3 := Lib.hid h3
 have H4 := Lib.hid h4
 clear hw0
 obtain ⟨_, _, rfl, -⟩ := h1
 obtain ⟨_, _, rfl, -⟩ := h2
 obtain ⟨_, _, rfl, -⟩ := h3
 obtain ⟨_, _, rfl, -⟩ := h4
 go_enter Tryz.func8, Tryz.ntmps8
 go_wp2_with fail
 refine (eqStringS_same _ _ _ _ _ _ (SliceK.below H1.out (H0.out _ _)) (SliceK.below H3.out (H0.out _ _))).mono ?_
 rintro e w1 ⟨rfl, hb1⟩
 obtain ⟨hc1, -⟩ := both hb1
 have hz := hb1.size
 simp only [World.size_alloc] at hz
 go_wp2_with fail
 refine (eqEdgeS_same _ _ _ _ _ _ (SliceK.below H2.out ((H0.out _ _).trans (hb1.mono (by simp; omega)))) (SliceK.below H4.out ((H0.out _ _).trans (hb1.mono (by simp; omega))))).mono ?_
 rintro e w2 ⟨rfl, hb2⟩
 go_wp2_with fail
 go_ret
 exact ⟨rfl, (H0.out _ _).trans ((hb1.mono (by simp; omega)).trans (hb2.mono (by omega)))⟩

end Go.Proofs.YtodojigmhlkpeaaGreatDoor

namespace Go.Proofs.YtodojigmhlkpeaaGreatDoor
open Go Go.RowKit

theorem info_string : (Tryz.prog.info? 9).map (fun i => (i.zero, i.size, i.bytes)) = some (some (.string ⟨#[]⟩), 1, 16) := by kernel_rfl
theorem info_edge : (Tryz.prog.info? 62).map (fun i => (i.zero, i.size, i.bytes)) = some (some (.agg #[.int .i64 0, .int .i64 0, .int .i64 0]), 3, 24) := by kernel_rfl

def MadeStrs (w : World) (ss : List ByteArray) (e : Ending) (w' : World) : Prop :=
 e = .returned (.slice (some ⟨w.heap.size, 0, none⟩) ss.length ss.length) ∧ Below w.heap.size w w' ∧ w.heap.size < w'.heap.size ∧ w'.ownsRow w.heap.size 9 1 (.slice (some ⟨w.heap.size, 0, none⟩) ss.length ss.length) ss.length (ss.map .string)

set_option maxHeartbeats 400000 in
theorem toStringS_any (v : Value) (lo : Nat) (ss : List ByteArray) (w : World) (hn : ss.length ≤ 1048576) (hv : SliceK 1 encS lo w v ss) :
  Calls Tryz.prog 19 #[v] w (MadeStrs w ss) := by
 obtain ⟨a, ca, rfl, hna, hca, ha⟩ := hv
 obtain ⟨i0, hi, hz0, hz1, hz2⟩ := info_parts info_string
 go_enter Tryz.func19, Tryz.ntmps19
 go_wp2_with (at_make; refine wpList_make_full _ rfl _ _ 22 rfl w.heap.size 9 i0 _ 1 Tryz.underlying22 hi hz0 hz1 .i64 .i64 _ _ ss.length rfl rfl rfl rfl ?_ ?_ ?_ ?_)
 ·rw [hz2]; omega
 ·simp [maxLen]; omega
 ·exact Nat.le_refl _
 ·intro w1 ho hg
  rw [toList_madeCells_one] at ho
  have hb1 : Below w.heap.size w w1 := (Below.refl _ w).grown hg (Nat.le_refl _) (fun _ h => by cases h)
  clear hi hz0 hz1 hz2 i0
  have HO := Lib.hid ho
  clear ho hg
  go_wp2
  go_loopw [4] (fun i wr => ∃ k : Nat, k ≤ ss.length ∧ i = .int .i64 k ∧ Below w.heap.size w wr ∧ wr.ownsRow w.heap.size 9 1 (.slice (some ⟨w.heap.size, 0, none⟩) ss.length ss.length) ss.length ((ss.take k).map .string ++ List.replicate (ss.length - k) (.string ⟨#[]⟩))) (fun i _ => ss.length - (intOf i).toNat)
  case atStart => exact ⟨0, Nat.zero_le _, rfl, hb1, by simpa using HO.out⟩
  case round =>
   obtain ⟨k, hk, rfl, hbl, ho⟩ := hrel
   clear HO hb1
   by_cases hlt : k < ss.length
   ·obtain ⟨b1, o1, rfl, -, h1, c1⟩ := (ha.below hbl).one hlt
    simp only [encS, List.getElem?_cons_zero] at c1
    have c2 := ho.cellAt k (by omega)
    rw [filled_get _ _ _ _ hlt] at c2
    have c3 := ho.frozenAt k
    have ho2 := ho.stored k (.string ss[k])
    rw [filled_set _ _ _ _ hlt] at ho2
    have HO := Lib.hid ho2
    clear ho ho2 ha
    go_wp2
    go_roundw
    case rel => exact ⟨k + 1, by omega, by go_num, hbl.setCell (by exact Nat.le_refl _) _, HO.out.1⟩
    case measure => simp [intOf]; omega
   ·clear ha
    go_wp2
    go_ret
    have hke : k = ss.length := by omega
    subst hke
    exact ⟨rfl, hbl, (ho.lt _ rfl).2, by simpa using ho⟩

def RetEdge (w : World) (x y z : Int) (e : Ending) (w' : World) : Prop := e = .returned (.agg #[.int .i64 x, .int .i64 y, .int .i64 z]) ∧ Below w.heap.size w w'

set_option maxHeartbeats 400000 in
theorem toEdge_any (x y z : Int) (w : World) : Calls Tryz.prog 41 #[.agg #[.int .i64 x, .int .i64 y, .int .i64 z]] w (RetEdge w x y z) := by
 go_enter Tryz.func41, Tryz.ntmps41
 go_wp2
 refine bodyPost_ret (v := .agg #[.int .i64 x, .int .i64 y, .int .i64 z]) (by simp [results, Tryz.results41, go_sem]) rfl ⟨rfl, ?_⟩
 repeat (first | exact Below.refl _ _ | refine Below.setCell ?_ (by simp) _ | refine Below.alloc ?_ (by simp; try omega) _)

def MadeEdges (w : World) (es : List Edge) (e : Ending) (w' : World) : Prop :=
 e = .returned (.slice (some ⟨w.heap.size, 0, none⟩) es.length es.length) ∧ Below w.heap.size w w' ∧ w.heap.size < w'.heap.size ∧ w'.ownsRow w.heap.size 62 3 (.slice (some ⟨w.heap.size, 0, none⟩) es.length es.length) es.length (es.flatMap encE)

set_option maxHeartbeats 1000000 in
theorem toEdgeS_any (v : Value) (lo : Nat) (es : List Edge) (w : World) (hn : es.length ≤ 1048576) (hv : SliceK 3 encE lo w v es) :
  Calls Tryz.prog 20 #[v] w (MadeEdges w es) := by
 obtain ⟨a, ca, rfl, hna, hca, ha⟩ := hv
 obtain ⟨i0, hi, hz0, hz1, hz2⟩ := info_parts info_edge
 go_enter Tryz.func20, Tryz.ntmps20
 go_wp2_with (at_make; refine wpList_make_full _ rfl _ _ 27 rfl w.heap.size 62 i0 _ 3 Tryz.underlying27 hi hz0 hz1 .i64 .i64 _ _ es.length rfl rfl rfl rfl ?_ ?_ ?_ ?_)
 ·rw [hz2]; omega
 ·simp [maxLen]; omega
 ·exact Nat.le_refl _
 ·intro w1 ho hg
  have hb1 : Below w.heap.size w w1 := (Below.refl _ w).grown hg (Nat.le_refl _) (fun _ h => by cases h)
  have ho1 : w1.ownsRow w.heap.size 62 3 (.slice (some ⟨w.heap.size, 0, none⟩) es.length es.length) es.length (List.replicate (es.length * 3) (.int .i64 0)) := by
   have : (madeCells #[.int .i64 0, .int .i64 0, .int .i64 0] (es.length * 3)).toList = List.replicate (es.length * 3) (Value.int .i64 0) := by
    apply List.ext_getElem?
    intro j
    by_cases hj : j < es.length * 3
    ·have h3 : j % 3 < 3 := Nat.mod_lt _ (by omega)
     simp only [madeCells, Array.toList_map, Array.toList_range, List.getElem?_map, List.getElem?_range hj, List.getElem?_replicate, if_pos hj, Option.map_some]
     show some (#[Value.int IntKind.i64 0, Value.int IntKind.i64 0, Value.int IntKind.i64 0][j % 3]!) = _
     generalize j % 3 = q at h3
     match q, h3 with
     | 0, _ => rfl
     | 1, _ => rfl
     | 2, _ => rfl
    ·simp [madeCells, hj]
   rw [this] at ho
   exact ho
  clear hi hz0 hz1 hz2 i0
  have HO := Lib.hid ho1
  clear ho hg ho1
  go_wp2
  go_loopw [4] (fun i wr => ∃ k : Nat, k ≤ es.length ∧ i = .int .i64 k ∧ Below w.heap.size w wr ∧ w.heap.size < wr.heap.size ∧ wr.ownsRow w.heap.size 62 3 (.slice (some ⟨w.heap.size, 0, none⟩) es.length es.length) es.length ((es.take k).flatMap encE ++ List.replicate ((es.length - k) * 3) (.int .i64 0))) (fun i _ => es.length - (intOf i).toNat)
  case atStart => exact ⟨0, Nat.zero_le _, rfl, hb1, (HO.out.lt _ rfl).2, by simpa using HO.out⟩
  case round =>
   obtain ⟨k, hk, rfl, hbl, hsz, ho⟩ := hrel
   clear HO hb1
   by_cases hlt : k < es.length
   ·obtain ⟨b1, o1, rfl, -, h1, c1, c2, c3⟩ := (ha.below hbl).edge hlt
    have HO := Lib.hid ho
    clear ho ha
    go_wp2_with fail
    refine (toEdge_any _ _ _ _).mono ?_
    rintro e w2 ⟨rfl, hb2⟩
    have ho := owns_below HO.out hb2
    clear c1 c2 c3
    have d0 := (ho.cellAt (k * 3) (by omega)).trans (filledE_get _ _ _ 0 hlt (by omega))
    have s0 := (ho.stored (k * 3) (.int .i64 es[k].src)).1
    have d1 := s0.cellAt (k * 3 + 1) (by omega)
    rw [List.getElem?_set_ne (by omega), filledE_get _ _ _ _ hlt (by omega)] at d1
    have s1 := (s0.stored (k * 3 + 1) (.int .i64 es[k].lab)).1
    have d2 := s1.cellAt (k * 3 + 2) (by omega)
    rw [List.getElem?_set_ne (by omega), List.getElem?_set_ne (by omega), filledE_get _ _ _ _ hlt (by omega)] at d2
    have g1 := ho.cellAt (k * 3 + 1) (by omega)
    rw [filledE_get _ _ _ _ hlt (by omega)] at g1
    have g2 := ho.cellAt (k * 3 + 2) (by omega)
    rw [filledE_get _ _ _ _ hlt (by omega)] at g2
    have f0 := ho.frozenAt (k * 3)
    have f3 := ho.frozenAt (k * 3 + 1)
    have f4 := ho.frozenAt (k * 3 + 2)
    have f1 := s0.frozenAt (k * 3 + 1)
    have f2 := s1.frozenAt (k * 3 + 2)
    have ho2 := (s1.stored (k * 3 + 2) (.int .i64 es[k].dst)).1
    rw [filledE_set _ _ _ hlt] at ho2
    clear s0 s1
    have HO2 := Lib.hid ho2
    have hsz2 := hb2.size
    clear ho ho2 HO
    go_wp2
    go_roundw
    case rel => exact ⟨k + 1, by omega, by go_num, (((hbl.trans (hb2.mono hbl.size)).setCell (by exact Nat.le_refl _) _).setCell (by exact Nat.le_refl _) _).setCell (by exact Nat.le_refl _) _, by simp; omega, HO2.out⟩
    case measure => simp [intOf]; omega
   ·clear ha
    go_wp2
    go_ret
    have hke : k = es.length := by omega
    subst hke
    exact ⟨rfl, hbl, (ho.lt _ rfl).2, by simpa using ho⟩

/-- A copy of a system, in memory of the call's own: its labels lie in one new block, its edges in a later one. -/
def MadeLts (w : World) (t : Lts) (e : Ending) (w' : World) : Prop :=
 ∃ b1 b2, e = .returned (.agg #[.int .i64 t.states, .int .i64 t.initial, .slice (some ⟨b1, 0, none⟩) t.labels.length t.labels.length, .slice (some ⟨b2, 0, none⟩) t.edges.length t.edges.length]) ∧ Below w.heap.size w w' ∧ w.heap.size ≤ b1 ∧ b1 < b2 ∧ b2 < w'.heap.size
  ∧ w'.ownsRow w.heap.size 9 1 (.slice (some ⟨b1, 0, none⟩) t.labels.length t.labels.length) t.labels.length (t.labels.map .string) ∧ w'.ownsRow b2 62 3 (.slice (some ⟨b2, 0, none⟩) t.edges.length t.edges.length) t.edges.length (t.edges.flatMap encE)

set_option maxHeartbeats 1000000 in
theorem toLts_any (v : Value) (lo : Nat) (t : Lts) (w : World) (hl : t.labels.length ≤ 1048576) (he : t.edges.length ≤ 1048576) (hv : LtsAt lo w v t) :
  Calls Tryz.prog 6 #[v] w (MadeLts w t) := by
 obtain ⟨lv, ev, rfl, h1, h2⟩ := hv
 have H1 := Lib.hid h1
 have H2 := Lib.hid h2
 obtain ⟨_, _, rfl, -⟩ := h1
 obtain ⟨_, _, rfl, -⟩ := h2
 have H0 : Hid (∀ o1 o2 o3, Below w.heap.size w (((w.alloc o1).alloc o2).alloc o3)) := fun _ _ _ => (((Below.refl _ _).alloc (Nat.le_refl _) _).alloc (by simp) _).alloc (by simp; omega) _
 go_enter Tryz.func6, Tryz.ntmps6
 go_wp2_with fail
 refine (toStringS_any _ _ _ _ hl (SliceK.below H1.out (H0.out _ _ _))).mono ?_
 rintro e w1 ⟨rfl, hb1, hs1, ho1⟩
 have B2 := Lib.hid ((Blk.new ((w.alloc _).alloc _) [.int .i64 t.states, .int .i64 t.initial, .slice none 0 0, .slice none 0 0] 29).below hb1)
 have B1 := Lib.hid (((Blk.new (w.alloc _) [.int .i64 0, .int .i64 0, .slice none 0 0, .slice none 0 0] 29).alloc _).below hb1)
 have B0 := Lib.hid ((((Blk.new w [.int .i64 t.states, .int .i64 t.initial, _, _] 25).alloc _).alloc _).below hb1)
 have hz := hb1.size
 simp only [World.size_alloc] at hz hs1 B1 B2 B0
 have HB1 := Lib.hid ((H0.out _ _ _).trans (hb1.mono (B' := w.heap.size) (by simp; omega)))
 have HO1 := Lib.hid ho1
 clear hb1 ho1
 have b3 := B0.out.cell 3 rfl
 have c2 := B2.out.cell 2 rfl
 have f2 := B2.out.frozen 2
 simp only [World.size_alloc] at HO1
 go_wp2_with fail
 have HB2 := Lib.hid (HB1.out.setCell (p := ⟨w.heap.size + 1 + 1, 2, none⟩) (by simp; omega) (.slice (some ⟨w.heap.size + 1 + 1 + 1, 0, none⟩) t.labels.length t.labels.length))
 refine (toEdgeS_any _ _ _ _ he (SliceK.below H2.out HB2.out)).mono ?_
 rintro e w2 ⟨rfl, hb2, hs2, ho2⟩
 have C2 := Lib.hid ((B2.out.set 2 (.slice (some ⟨w.heap.size + 1 + 1 + 1, 0, none⟩) t.labels.length t.labels.length)).below hb2)
 have C1 := Lib.hid ((B1.out.setOther ⟨w.heap.size + 1 + 1, 2, none⟩ (.slice (some ⟨w.heap.size + 1 + 1 + 1, 0, none⟩) t.labels.length t.labels.length) (by simp)).below hb2)
 have HB3 := Lib.hid (HB2.out.trans (hb2.mono (B' := w.heap.size) (by simp; omega)))
 have HO1' := Lib.hid (owns_below (owns_setOther HO1.out ⟨w.heap.size + 1 + 1, 2, none⟩ (.slice (some ⟨w.heap.size + 1 + 1 + 1, 0, none⟩) t.labels.length t.labels.length) (by simp [Value.ownBlock])) hb2)
 have HO2 := Lib.hid ho2
 simp only [World.size_setCell] at hs2 HO2
 clear hb2 ho2 c2 f2 B1 B2 HB1 HO1 b3 B0
 have d0 := C2.out.cell 0 rfl
 have d1 := C2.out.cell 1 rfl
 have d2 := C2.out.cell 2 rfl
 have d3 := C2.out.cell 3 rfl
 have f3 := C2.out.frozen 3
 have e0 := C1.out.cell 0 rfl
 have e1 := C1.out.cell 1 rfl
 have e2 := C1.out.cell 2 rfl
 have e3 := C1.out.cell 3 rfl
 have g0 := C1.out.frozen 0
 have g1 := C1.out.frozen 1
 have g2 := C1.out.frozen 2
 have g3 := C1.out.frozen 3
 simp only [World.size_setCell]
 go_wp2_with fail
 refine bodyPost_ret (v := .agg #[.int .i64 t.states, .int .i64 t.initial, .slice (some ⟨w.heap.size + 1 + 1 + 1, 0, none⟩) t.labels.length t.labels.length, .slice (some ⟨w1.heap.size, 0, none⟩) t.edges.length t.edges.length])
  (by simp [results, Tryz.results6, go_sem, e0, e1, e2, e3]) rfl ⟨w.heap.size + 1 + 1 + 1, w1.heap.size, rfl, ?_, by omega, by omega, by simp; omega, ?_, ?_⟩
 ·exact ((((HB3.out.setCell (by simp; omega) _).setCell (by simp) _).setCell (by simp) _).setCell (by simp) _).setCell (by simp) _
 ·obtain ⟨q1, ⟨q2, q3⟩ | ⟨q4, q5, q6, q7, q8, q9⟩⟩ := (owns_setOther (owns_setOther (owns_setOther (owns_setOther (owns_setOther HO1'.out ⟨w.heap.size + 1 + 1, 3, none⟩ (.slice (some ⟨w1.heap.size, 0, none⟩) t.edges.length t.edges.length) (by simp [Value.ownBlock]; try omega)) ⟨w.heap.size + 1, 0, none⟩ (.int .i64 t.states) (by simp [Value.ownBlock]; try omega)) ⟨w.heap.size + 1, 1, none⟩ (.int .i64 t.initial) (by simp [Value.ownBlock]; try omega)) ⟨w.heap.size + 1, 2, none⟩ (.slice (some ⟨w.heap.size + 1 + 1 + 1, 0, none⟩) t.labels.length t.labels.length) (by simp [Value.ownBlock]; try omega)) ⟨w.heap.size + 1, 3, none⟩ (.slice (some ⟨w1.heap.size, 0, none⟩) t.edges.length t.edges.length) (by simp [Value.ownBlock]; try omega))
  ·simp at q2
  ·exact ⟨q1, .inr ⟨q4, q5, q6, q7, by omega, q9⟩⟩
 ·exact owns_setOther (owns_setOther (owns_setOther (owns_setOther (owns_setOther HO2.out _ _ (by simp [Value.ownBlock]; try omega)) _ _ (by simp [Value.ownBlock]; try omega)) _ _ (by simp [Value.ownBlock]; try omega)) _ _ (by simp [Value.ownBlock]; try omega)) _ _ (by simp [Value.ownBlock]; try omega)

end Go.Proofs.YtodojigmhlkpeaaGreatDoor

namespace Go.Proofs.YtodojigmhlkpeaaGreatDoor
open Go Go.RowKit

def SomeText (w : World) (e : Ending) (w' : World) : Prop := ∃ s, e = .returned (.string s) ∧ Below w.heap.size w w'

/-- A text out of one digit's byte. -/
theorem digit_text (w : World) (n : Int) (_h0 : 0 ≤ n) :
  (convert 112 9 (.slice (some ⟨w.heap.size, 0, none⟩) 1 1)).run Tryz.prog (w.alloc (.cells #[.int .u8 (48 + n % 10)] 5)) = .ok (.string ⟨#[UInt8.ofNat (48 + n % 10).toNat]⟩) (w.alloc (.cells #[.int .u8 (48 + n % 10)] 5)) := by
 refine run_convert_bytes_back (P := Tryz.prog) _ 112 9 5 ⟨w.heap.size, 0, none⟩ 1 [UInt8.ofNat (48 + n % 10).toNat] Tryz.underlying112 Tryz.underlying5 Tryz.underlying9 ?_
 intro j hj
 obtain rfl : j = 0 := by simpa using hj
 simp [Addr.add]
 omega

set_option maxRecDepth 100000 in
set_option maxHeartbeats 400000 in
theorem markText_any (k : Int) (w : World) (h1 : 0 ≤ k) (h2 : k ≤ 1000000000) : Calls Tryz.prog 54 #[.int .i64 k] w (SomeText w) := by
 by_cases h0 : k ≤ 0
 ·go_enter Tryz.func54, Tryz.ntmps54
  go_wp2
  go_ret
  exact ⟨_, rfl, Below.refl _ _⟩
 ·go_enter Tryz.func54, Tryz.ntmps54
  go_wp2
  go_loopw [0, 3] (fun q s wr => ∃ (n : Int) (t : ByteArray), 0 ≤ n ∧ t.size + n ≤ 1000000000 ∧ q = .int .i64 n ∧ s = .string t ∧ Below w.heap.size w wr) (fun q _ _ => (intOf q).toNat)
  case atStart => exact ⟨_, _, by omega, by show ((0 : Nat) : Int) + k ≤ _; omega, rfl, rfl, Below.refl _ _⟩
  case round =>
   obtain ⟨n, t, hn, hn2, rfl, rfl, hbl⟩ := hrel
   by_cases hp : 0 < n
   ·have kc := digit_text wr n hn
    go_wp2
    go_roundw
    case rel =>
     have hz : (ByteArray.mk #[UInt8.ofNat (48 + n % 10).toNat] ++ t).size = 1 + t.size := by rw [ByteArray.size_append]; rfl
     exact ⟨_, _, by omega, by rw [hz]; omega, rfl, rfl, hbl.alloc hbl.size _⟩
    case measure => simp [intOf]; omega
   ·go_wp2
    go_ret
    exact ⟨_, rfl, hbl⟩



/-- What a function that marks a slice does: it returns the next mark, and turns no block but the slice's own. -/
def Marked (w : World) (v : Value) (r : Int) (C : World → Prop) (e : Ending) (w' : World) : Prop := e = .returned (.int .i64 r) ∧ w.grownBy w' v.ownBlock ∧ C w'
def MarkedIn (lo hi : Nat) (w : World) (r : Int) (e : Ending) (w' : World) : Prop := e = .returned (.int .i64 r) ∧ Turns lo hi w w'

end Go.Proofs.YtodojigmhlkpeaaGreatDoor

namespace Go.Proofs.YtodojigmhlkpeaaGreatDoor
open Go Go.RowKit

def mdig : Nat → Int → ByteArray → ByteArray
 | 0, _, t => t
 | f + 1, n, t => if 0 < n then mdig f (n / 10) (⟨#[UInt8.ofNat (48 + n % 10).toNat]⟩ ++ t) else t
/-- The text of a mark. -/
def mtxt (k : Int) : ByteArray := if k ≤ 0 then ⟨#[109, 48]⟩ else ⟨#[109]⟩ ++ mdig 10 k ⟨#[]⟩
theorem mdig_stop (f : Nat) {n : Int} (t : ByteArray) (h : ¬ 0 < n) : mdig f n t = t := by
 cases f with
 | zero => rfl
 | succ f => rw [mdig, if_neg h]

set_option maxRecDepth 100000 in
set_option maxHeartbeats 400000 in
theorem markText_is (k : Int) (w : World) (h1 : 0 ≤ k) (h2 : k ≤ 1000000000) : Calls Tryz.prog 54 #[.int .i64 k] w fun e w' => e = .returned (.string (mtxt k)) ∧ Below w.heap.size w w' := by
 obtain ⟨R, hR⟩ : ∃ R, R = mtxt k := ⟨_, rfl⟩
 rw [← hR]
 by_cases h0 : k ≤ 0
 ·unfold mtxt at hR
  rw [if_pos h0] at hR
  subst hR
  go_enter Tryz.func54, Tryz.ntmps54
  go_wp2
  go_ret
  exact ⟨rfl, Below.refl _ _⟩
 ·unfold mtxt at hR
  rw [if_neg h0] at hR
  obtain ⟨D, hD⟩ : ∃ D, D = mdig 10 k ⟨#[]⟩ := ⟨_, rfl⟩
  rw [← hD] at hR
  have HD := Lib.hid hD
  have HR := Lib.hid hR
  clear hD hR
  go_enter Tryz.func54, Tryz.ntmps54
  go_wp2
  go_loopw [0, 3] (fun q s wr => ∃ (n : Int) (t : ByteArray) (f : Nat), 0 ≤ n ∧ t.size + n ≤ 1000000000 ∧ n < (10 : Int) ^ f ∧ mdig f n t = D ∧ q = .int .i64 n ∧ s = .string t ∧ Below w.heap.size w wr) (fun q _ _ => (intOf q).toNat)
  case atStart => exact ⟨k, ⟨#[]⟩, 10, by omega, by show ((0 : Nat) : Int) + k ≤ _; omega, by show k < 10000000000; omega, HD.out.symm, rfl, rfl, Below.refl _ _⟩
  case round =>
   obtain ⟨n, t, f, hn, hn2, hf, hd, rfl, rfl, hbl⟩ := hrel
   have HDD := Lib.hid hd
   have HF := Lib.hid hf
   clear hd hf
   by_cases hp : 0 < n
   ·have kc := digit_text wr n hn
    go_wp2
    go_roundw
    case rel =>
     have hz : (ByteArray.mk #[UInt8.ofNat (48 + n % 10).toNat] ++ t).size = 1 + t.size := by rw [ByteArray.size_append]; rfl
     have hf := HF.out
     cases f with
     | zero => exfalso; rw [Int.pow_zero] at hf; omega
     | succ f =>
      have hd := HDD.out
      rw [mdig, if_pos hp] at hd
      refine ⟨_, _, f, by omega, by rw [hz]; omega, ?_, hd, rfl, rfl, hbl.alloc hbl.size _⟩
      rw [Int.pow_succ] at hf
      omega
    case measure => simp [intOf]; omega
   ·have HE : Hid (t = D) := by have := HDD.out; rw [mdig_stop f t hp] at this; exact this
    go_wp2
    go_ret
    exact ⟨by rw [HR.out, HE.out]; rfl, hbl⟩

/-- The marks from k on, as texts. -/
def mrkS (k : Int) (n : Nat) : List ByteArray := (List.range n).map fun i => mtxt (k + (i : Nat))
def markedS (k : Int) (cs : List Value) (j : Nat) : List Value := (mrkS k j).map Value.string ++ cs.drop j
theorem mrkS_len (k : Int) (n : Nat) : (mrkS k n).length = n := by simp [mrkS]
theorem markedS_zero (k : Int) (cs : List Value) : markedS k cs 0 = cs := by simp [markedS, mrkS]
theorem markedS_all (k : Int) (cs : List Value) : markedS k cs cs.length = (mrkS k cs.length).map Value.string := by simp [markedS]
theorem markedS_get (k : Int) (cs : List Value) (j : Nat) (h : j < cs.length) : (markedS k cs j)[j]? = some cs[j] := by
 unfold markedS
 rw [List.getElem?_append_right (by simp [mrkS])]
 simp [h, mrkS]
theorem markedS_set (k : Int) (cs : List Value) (j : Nat) (h : j < cs.length) : (markedS k cs j).set j (.string (mtxt (k + (j : Nat)))) = markedS k cs (j + 1) := by
 unfold markedS mrkS
 rw [List.set_append_right _ _ (by simp), List.range_succ, List.map_append, List.map_append, List.append_assoc, List.drop_eq_getElem_cons h]
 simp only [List.length_map, List.length_range, Nat.sub_self, List.set_cons_zero, List.map_cons, List.map_nil, List.cons_append, List.nil_append]

set_option maxRecDepth 100000 in
set_option maxHeartbeats 400000 in
theorem markStringS_is (lo : Nat) (v : Value) (cs : List Value) (k : Int) (w : World) (h1 : 0 ≤ k) (h2 : k + cs.length ≤ 1000000000) (hv : w.ownsRow lo 9 1 v cs.length cs) :
  Calls Tryz.prog 26 #[v, .int .i64 k] w (Marked w v (k + cs.length) (fun w' => w'.ownsRow lo 9 1 v cs.length ((mrkS k cs.length).map Value.string))) := by
 have HV := Lib.hid hv
 rcases hv.2 with ⟨rfl, h0⟩ | ⟨b, cap, cur, rfl, -, -, hcap, hm, -⟩
 ·clear hv
  have hcs : cs = [] := List.eq_nil_of_length_eq_zero h0
  subst hcs
  go_enter Tryz.func26, Tryz.ntmps26
  go_wp2
  go_loop [1, 5] (fun q i => q = .int .i64 k ∧ i = .int .i64 0) (fun _ _ => 0)
  case atStart => exact ⟨rfl, rfl⟩
  case round =>
   obtain ⟨rfl, rfl⟩ := hrel
   go_wp2
   go_ret
   exact ⟨ret_int (by simp), grown_refl _ _, HV.out⟩
 ·clear hv
  obtain ⟨N, hN⟩ : ∃ N, N = cs.length := ⟨_, rfl⟩
  rw [← hN] at h2 hcap HV ⊢
  have HN := Lib.hid hN
  clear hN
  go_enter Tryz.func26, Tryz.ntmps26
  go_wp2
  go_loopw [1, 5] (fun q i wr => ∃ j : Nat, j ≤ N ∧ q = .int .i64 (k + j) ∧ i = .int .i64 j ∧ w.grownBy wr (some b) ∧ wr.ownsRow lo 9 1 (.slice (some ⟨b, 0, none⟩) N cap) N (markedS k cs j)) (fun _ i _ => N - (intOf i).toNat)
  case atStart => exact ⟨0, Nat.zero_le _, by simp, rfl, grown_refl _ _, by rw [markedS_zero]; exact HV.out⟩
  case round =>
   obtain ⟨j, hj, rfl, rfl, hg, ho⟩ := hrel
   have HG := Lib.hid hg
   have HO := Lib.hid ho
   clear hg ho HV
   by_cases hlt : j < N
   ·go_wp2_with fail
    refine (markText_is _ _ (by omega) (by omega)).mono ?_
    rintro e w1 ⟨rfl, hb⟩
    have hjc : j < cs.length := by rw [← HN.out]; exact hlt
    have ho1 := owns_below HO.out hb
    have c1 := ho1.cellAt j (by omega)
    rw [markedS_get _ _ _ hjc] at c1
    have f1 := ho1.frozenAt j
    have ho2 := ho1.stored j (.string (mtxt (k + j)))
    rw [markedS_set _ _ _ hjc] at ho2
    have HO2 := Lib.hid ho2
    have HB := Lib.hid (grown_below hb (some b))
    clear ho1 ho2 hb
    go_wp2
    go_roundw
    case rel => exact ⟨j + 1, by omega, by go_num, by go_num, grown_trans (grown_trans HG.out HB.out) HO2.out.2, HO2.out.1⟩
    case measure => simp [intOf]; omega
   ·go_wp2
    go_ret
    obtain rfl : j = N := by omega
    refine ⟨rfl, HG.out, ?_⟩
    have := HO.out
    rw [HN.out, markedS_all, ← HN.out] at this
    exact this

set_option maxRecDepth 100000 in
set_option maxHeartbeats 400000 in
theorem heldStringS_is (v : Value) (lo n : Nat) (k : Int) (w : World) (h1 : 0 ≤ k) (h2 : k + n ≤ 1000000000) (hv : SliceK 1 encS lo w v (mrkS k n)) :
  Calls Tryz.prog 29 #[v, .int .i64 k] w fun e w' => e = .returned (.int .i64 (k + n)) ∧ Below w.heap.size w w' := by
 obtain ⟨a, cap, rfl, hn, hcap, hr⟩ := hv
 have hl := mrkS_len k n
 rw [hl] at hn ⊢
 have HL := Lib.hid hl
 have HR := Lib.hid hr
 clear hl hr
 go_enter Tryz.func29, Tryz.ntmps29
 go_wp2
 go_loopw [1, 5] (fun q i wr => ∃ j : Nat, j ≤ n ∧ q = .int .i64 (k + j) ∧ i = .int .i64 j ∧ Below w.heap.size w wr) (fun _ i _ => n - (intOf i).toNat)
 case atStart => exact ⟨0, Nat.zero_le _, by simp, rfl, Below.refl _ _⟩
 case round =>
  obtain ⟨j, hj, rfl, rfl, hb⟩ := hrel
  have HB := Lib.hid hb
  by_cases hlt : j < n
  ·obtain ⟨b, off, rfl, -, hbl, c1⟩ := (HR.out.below hb).one (i := j) (by rw [HL.out]; exact hlt)
   simp only [encS, List.getElem?_cons_zero, mrkS, List.getElem_map, List.getElem_range] at c1
   have l1 := later_cell hbl c1
   have HM := Lib.hid (fun w' => markText_is (k + j) w' (by omega) (by omega))
   clear hb c1
   go_wp2
   refine wp_region_later (by kernel_rfl) (by kernel_rfl) ?_
   repeat (go_big_quiet_step (((go_at_call 54; refine later_call (HM.out _)))))
   refine wpQuiet_nil ?_
   intro _ hw9
   obtain ⟨nl, hw8⟩ := hw9
   subst hw8
   have HB2 := Lib.hid (HB.out.trans (nl.h.mono HB.out.size))
   clear l1
   go_wp2
   go_roundw
   case rel => exact ⟨j + 1, by omega, by go_num, by go_num, HB2.out⟩
   case measure => simp [intOf]; omega
  ·clear hb
   go_wp2
   go_ret
   obtain rfl : j = n := by omega
   exact ⟨rfl, HB.out⟩

end Go.Proofs.YtodojigmhlkpeaaGreatDoor

namespace Go.Proofs.YtodojigmhlkpeaaGreatDoor
open Go Go.RowKit

/-- Rows of the call's own, no two in one block. -/
structure Pile (ei lo : Nat) (w : World) (vs : List Value) (css : List (List Value)) : Prop where
 len : vs.length = css.length
 row : ∀ (i : Nat) (h : i < vs.length) (h' : i < css.length), w.ownsRow lo ei 1 vs[i] css[i].length css[i]
 far : ∀ (i j : Nat) (h : i < vs.length) (h' : j < vs.length), i ≠ j → vs[i].ownBlock = none ∨ vs[i].ownBlock ≠ vs[j].ownBlock
theorem Pile.nil (ei lo : Nat) (w : World) : Pile ei lo w [] [] := ⟨rfl, fun _ h => absurd h (Nat.not_lt_zero _), fun _ _ h => absurd h (Nat.not_lt_zero _)⟩
theorem Pile.below {ei lo : Nat} {w w' : World} {vs : List Value} {css : List (List Value)} (h : Pile ei lo w vs css) (hb : Below w.heap.size w w') : Pile ei lo w' vs css :=
 ⟨h.len, fun i hi hi' => owns_below (h.row i hi hi') hb, h.far⟩
theorem Pile.lower {ei lo lo' : Nat} {w : World} {vs : List Value} {css : List (List Value)} (h : Pile ei lo w vs css) (hl : lo' ≤ lo) : Pile ei lo' w vs css :=
 ⟨h.len, fun i hi hi' => own_lower (h.row i hi hi') hl, h.far⟩
theorem Pile.turns {ei base lo hi : Nat} {w w' : World} {vs : List Value} {css : List (List Value)} (h : Pile ei base w vs css) (ht : Turns lo hi w w') (hb : hi ≤ base) : Pile ei base w' vs css :=
 ⟨h.len, fun i hi hi' => owns_turns (h.row i hi hi') ht (fun b e => .inr (Nat.le_trans hb ((h.row i hi hi').lt b e).1)), h.far⟩
theorem Pile.kept {ei lo : Nat} {w w' : World} {vs : List Value} {css : List (List Value)} {row : Option Nat} (h : Pile ei lo w vs css) (hg : w.grownBy w' row) (hr : ∀ (i : Nat) (h : i < vs.length), vs[i].ownBlock = none ∨ vs[i].ownBlock ≠ row) : Pile ei lo w' vs css :=
 ⟨h.len, fun i hi hi' => (h.row i hi hi').kept hg (hr i hi), h.far⟩
/-- A row of another type was written. -/
theorem Pile.other {ei eo lo lo2 size n : Nat} {w w' : World} {vs : List Value} {css : List (List Value)} {v : Value} {xs : List Value} (h : Pile ei lo w vs css) (he : ei ≠ eo) (ho : w.ownsRow lo2 eo size v n xs) (hg : w.grownBy w' v.ownBlock) : Pile ei lo w' vs css :=
 h.kept hg fun i hi => own_types (h.row i hi (by rw [← h.len]; exact hi)) ho he
theorem own_type_far {w : World} {base e size n b : Nat} {v : Value} {xs : List Value} (ho : w.ownsRow base e size v n xs) {a : Array Value} {t : TypeId} {fr : Nat × Nat} (hb : w.heap[b]? = some (.cells a t fr)) (he : e ≠ t) : v.ownBlock = none ∨ v.ownBlock ≠ some b := by
 rcases ho.2 with ⟨rfl, -⟩ | ⟨g, c, u, rfl, -, hg, -⟩
 ·exact .inl rfl
 ·refine .inr fun e2 => ?_
  simp only [Value.ownBlock, Option.some.injEq] at e2
  subst e2
  rw [hg] at hb
  simp only [Option.some.injEq, Obj.cells.injEq] at hb
  exact he hb.2.1
/-- A cell of a block of another type was written. -/
theorem Pile.set {ei lo : Nat} {w : World} {vs : List Value} {css : List (List Value)} (h : Pile ei lo w vs css) {b : Nat} {cs : List Value} {t : TypeId} (hb : Blk w b cs t) (he : ei ≠ t) (i : Nat) (u : Value) : Pile ei lo (w.setCell ⟨b, i, none⟩ u) vs css :=
 h.kept (grown_setCell w ⟨b, i, none⟩ u) fun j hj => own_type_far (h.row j hj (by rw [← h.len]; exact hj)) hb he
/-- One row is written. -/
theorem Pile.put {ei lo : Nat} {w w' : World} {vs : List Value} {css : List (List Value)} (h : Pile ei lo w vs css) (j : Nat) (hj : j < vs.length) (ys : List Value) (hg : w.grownBy w' vs[j].ownBlock) (ho : w'.ownsRow lo ei 1 vs[j] ys.length ys) : Pile ei lo w' vs (css.set j ys) := by
 refine ⟨by simpa using h.len, fun i hi hi' => ?_, h.far⟩
 by_cases hij : j = i
 ·subst hij
  simpa using ho
 ·rw [List.getElem_set_ne hij]
  exact (h.row i hi (by simpa using hi')).kept hg (h.far i j hi hj (fun e => hij e.symm))
/-- One row more, which lies behind all that was there. -/
theorem Pile.push {ei lo B : Nat} {w0 w : World} {rv : Value} {vs : List Value} {css : List (List Value)} {ys : List Value} (h : Pile ei lo w0 vs css) (hB : w0.heap.size ≤ B) (hb : Below w0.heap.size w0 w) (hr : w.ownsRow B ei 1 rv ys.length ys) (hlo : lo ≤ B) :
  Pile ei lo w (vs ++ [rv]) (css ++ [ys]) := by
 have hk := h.below hb
 have hl := h.len
 refine ⟨by simp [hl], fun i hi hi' => ?_, fun i j hi hj hij => ?_⟩
 ·by_cases hlt : i < vs.length
  ·rw [List.getElem_append_left hlt]
   simp only [List.getElem_append_left (show i < css.length by omega)]
   exact hk.row i hlt (by omega)
  ·have e : i = vs.length := by simp at hi; omega
   subst e
   rw [List.getElem_concat_length rfl]
   have : (css ++ [ys])[vs.length] = ys := by simp [hl]
   rw [this]
   exact own_lower hr hlo
 ·have hold : ∀ (i : Nat) (h : i < vs.length) b, vs[i].ownBlock = some b → b < w0.heap.size := fun i hi b e => ((h.row i hi (by omega)).lt b e).2
  have hnb : ∀ b, rv.ownBlock = some b → B ≤ b := fun b e => (hr.lt b e).1
  by_cases h1' : i < vs.length <;> by_cases h2' : j < vs.length
  ·rw [List.getElem_append_left h1', List.getElem_append_left h2']
   exact h.far i j h1' h2' hij
  ·have e : j = vs.length := by simp at hj; omega
   subst e
   rw [List.getElem_append_left h1', List.getElem_concat_length rfl]
   cases hb1 : vs[i].ownBlock with
   | none => exact .inl rfl
   | some b => exact .inr fun e => by have := hold i h1' b hb1; have := hnb b e.symm; omega
  ·have e : i = vs.length := by simp at hi; omega
   subst e
   rw [List.getElem_append_left h2', List.getElem_concat_length rfl]
   cases hb1 : rv.ownBlock with
   | none => exact .inl rfl
   | some b => exact .inr fun e => by have := hold j h2' b e.symm; have := hnb b hb1; omega
  ·simp at hi hj; omega
theorem Pile.one {ei lo B : Nat} {w : World} {rv : Value} {ys : List Value} (hr : w.ownsRow B ei 1 rv ys.length ys) (hlo : lo ≤ B) : Pile ei lo w [rv] [ys] := by
 refine ⟨rfl, fun i hi hi' => ?_, fun i j hi hj hij => ?_⟩
 ·obtain rfl : i = 0 := by simp at hi; omega
  exact own_lower hr hlo
 ·simp at hi hj; omega
theorem Pile.old {ei lo : Nat} {w : World} {vs : List Value} {css : List (List Value)} (h : Pile ei lo w vs css) {i : Nat} (hi : i < vs.length) {b : Nat} (e : vs[i].ownBlock = some b) : lo ≤ b ∧ b < w.heap.size :=
 (h.row i hi (by rw [← h.len]; exact hi)).lt b e

/-- Blocks of types other than these are as they were. -/
def Only (Ts : List TypeId) (w w' : World) : Prop := ∀ (b : Nat) (a : Array Value) (T : TypeId) (fr : Nat × Nat), w.heap[b]? = some (.cells a T fr) → T ∉ Ts → w'.heap[b]? = some (.cells a T fr)
theorem Only.refl (Ts : List TypeId) (w : World) : Only Ts w w := fun _ _ _ _ h _ => h
theorem Only.trans {Ts Us : List TypeId} {a b c : World} (h : Only Ts a b) (k : Only Us b c) : Only (Ts ++ Us) a c := fun x y T fr hx hT => by
 rw [List.mem_append] at hT
 exact k x y T fr (h x y T fr hx (fun e => hT (.inl e))) (fun e => hT (.inr e))
theorem Only.step {Ts : List TypeId} {a b c : World} (h : Only Ts a b) (k : Only Ts b c) : Only Ts a c := fun x y T fr hx hT => k x y T fr (h x y T fr hx hT) hT
theorem Only.below {w w' : World} (Ts : List TypeId) (hb : Below w.heap.size w w') : Only Ts w w' := fun b _ _ _ h _ => (hb.block b (Array.getElem?_eq_some_iff.1 h).1).trans h
theorem Only.grown {base e size n : Nat} {w w' : World} {v : Value} {xs : List Value} (ho : w.ownsRow base e size v n xs) (hg : w.grownBy w' v.ownBlock) : Only [e] w w' := fun b a T fr h hT => by
 refine (hg.block b (Array.getElem?_eq_some_iff.1 h).1 ?_).trans h
 intro e2
 rcases own_type_far ho h (fun e3 => hT (by rw [e3]; simp)) with h1 | h1
 ·rw [h1] at e2; cases e2
 ·exact h1 e2.symm
theorem Only.own {Ts : List TypeId} {w w' : World} (h : Only Ts w w') {base e size n : Nat} {v : Value} {xs : List Value} (ho : w.ownsRow base e size v n xs) (he : e ∉ Ts) : w'.ownsRow base e size v n xs := by
 refine ⟨ho.1, ?_⟩
 rcases ho.2 with hn | ⟨g, cap, cur, rfl, hb, hgg, rest⟩
 ·exact .inl hn
 ·exact .inr ⟨g, cap, cur, rfl, hb, h g _ _ _ hgg he, rest⟩
theorem Only.blk {Ts : List TypeId} {w w' : World} (h : Only Ts w w') {b : Nat} {cs : List Value} {t : TypeId} (hb : Blk w b cs t) (he : t ∉ Ts) : Blk w' b cs t := h b _ _ _ hb he
theorem Only.mono {Ts Us : List TypeId} {w w' : World} (h : Only Ts w w') (hs : ∀ T ∈ Ts, T ∈ Us) : Only Us w w' := fun b a T fr hb hT => h b a T fr hb (fun e => hT (hs T e))
theorem Only.pile {Ts : List TypeId} {w w' : World} (h : Only Ts w w') {ei lo : Nat} {vs : List Value} {css : List (List Value)} (ho : Pile ei lo w vs css) (he : ei ∉ Ts) : Pile ei lo w' vs css :=
 ⟨ho.len, fun i hi hi' => h.own (ho.row i hi hi') he, ho.far⟩

end Go.Proofs.YtodojigmhlkpeaaGreatDoor

namespace Go.Proofs.YtodojigmhlkpeaaGreatDoor
open Go Go.RowKit

/-- A system of the call's own. -/
def OwnLts (lo : Nat) (w : World) (lv ev : Value) (t : Lts) : Prop := w.ownsRow lo 9 1 lv t.labels.length (t.labels.map .string) ∧ w.ownsRow lo 62 3 ev t.edges.length (t.edges.flatMap encE)
theorem OwnLts.below {lo : Nat} {w w' : World} {lv ev : Value} {t : Lts} (h : OwnLts lo w lv ev t) (hb : Below w.heap.size w w') : OwnLts lo w' lv ev t := ⟨owns_below h.1 hb, owns_below h.2 hb⟩
theorem OwnLts.lower {lo lo' : Nat} {w : World} {lv ev : Value} {t : Lts} (h : OwnLts lo w lv ev t) (hl : lo' ≤ lo) : OwnLts lo' w lv ev t := ⟨own_lower h.1 hl, own_lower h.2 hl⟩
theorem OwnLts.turns {base lo hi : Nat} {w w' : World} {lv ev : Value} {t : Lts} (h : OwnLts base w lv ev t) (ht : Turns lo hi w w') (hb : hi ≤ base) : OwnLts base w' lv ev t :=
 ⟨owns_turns h.1 ht (fun b e => .inr (Nat.le_trans hb (h.1.lt b e).1)), owns_turns h.2 ht (fun b e => .inr (Nat.le_trans hb (h.2.lt b e).1))⟩
theorem OwnLts.at {lo : Nat} {w : World} {lv ev : Value} {t : Lts} (h : OwnLts lo w lv ev t) : LtsAt lo w (.agg #[.int .i64 t.states, .int .i64 t.initial, lv, ev]) t :=
 ⟨lv, ev, rfl, SliceK.of_owns (e := 9) encS_len rfl (by rw [flat_encS]; exact h.1), SliceK.of_owns (e := 62) encE_len rfl h.2⟩

end Go.Proofs.YtodojigmhlkpeaaGreatDoor

namespace Go.Proofs.YtodojigmhlkpeaaGreatDoor
open Go Go.RowKit

def mrkE (k : Int) (n : Nat) : List Edge := (List.range n).map fun i => ⟨k + 3 * (i : Nat), k + 3 * (i : Nat) + 1, k + 3 * (i : Nat) + 1 + 1⟩
def markedE (k : Int) (cs : List Value) (j : Nat) : List Value := (mrkE k j).flatMap encE ++ cs.drop (j * 3)
theorem mrkE_len (k : Int) (n : Nat) : (mrkE k n).length = n := by simp [mrkE]
theorem flatE_len (es : List Edge) : (es.flatMap encE).length = es.length * 3 := by
 have := filledE_len es es.length (Nat.le_refl _)
 rw [List.take_length] at this
 exact this
theorem mrkE_flat (k : Int) (n : Nat) : ((mrkE k n).flatMap encE).length = n * 3 := by rw [flatE_len, mrkE_len]
theorem markedE_zero (k : Int) (cs : List Value) : markedE k cs 0 = cs := by simp [markedE, mrkE]
theorem markedE_all (k : Int) (cs : List Value) (n : Nat) (h : cs.length = n * 3) : markedE k cs n = (mrkE k n).flatMap encE := by simp [markedE, ← h]
theorem markedE_set (k : Int) (cs : List Value) (j : Nat) (h : j * 3 + 2 < cs.length) :
  (((markedE k cs j).set (j * 3) (.int .i64 (k + 3 * (j : Nat)))).set (j * 3 + 1) (.int .i64 (k + 3 * (j : Nat) + 1))).set (j * 3 + 2) (.int .i64 (k + 3 * (j : Nat) + 1 + 1)) = markedE k cs (j + 1) := by
 have hl := mrkE_flat k j
 have hm : mrkE k (j + 1) = mrkE k j ++ [⟨k + 3 * (j : Nat), k + 3 * (j : Nat) + 1, k + 3 * (j : Nat) + 1 + 1⟩] := by simp [mrkE, List.range_succ]
 unfold markedE
 rw [hm, List.flatMap_append, List.append_assoc, List.drop_eq_getElem_cons (show j * 3 < cs.length by omega), List.drop_eq_getElem_cons (show j * 3 + 1 < cs.length by omega), List.drop_eq_getElem_cons (show j * 3 + 1 + 1 < cs.length by omega)]
 rw [List.set_append_right _ _ (by omega), List.set_append_right _ _ (by omega), List.set_append_right _ _ (by omega), hl, show j * 3 - j * 3 = 0 from by omega, show j * 3 + 1 - j * 3 = 1 from by omega, show j * 3 + 2 - j * 3 = 2 from by omega,
  show (j + 1) * 3 = j * 3 + 1 + 1 + 1 from by omega]
 simp only [List.set_cons_zero, List.set_cons_succ, List.flatMap_cons, List.flatMap_nil, encE, List.append_nil, List.cons_append, List.nil_append]

set_option maxRecDepth 100000 in
set_option maxHeartbeats 1000000 in
theorem markEdgeS_is (lo : Nat) (v : Value) (n : Nat) (cs : List Value) (k : Int) (w : World) (h1 : 0 ≤ k) (h2 : k + 3 * n ≤ 1000000000) (hv : w.ownsRow lo 62 3 v n cs) :
  Calls Tryz.prog 27 #[v, .int .i64 k] w (Marked w v (k + 3 * n) (fun w' => w'.ownsRow lo 62 3 v n ((mrkE k n).flatMap encE))) := by
 have HV := Lib.hid hv
 have hcl := hv.1
 rcases hv.2 with ⟨rfl, rfl⟩ | ⟨b, cap, cur, rfl, -, -, hcap, hm, -⟩
 ·clear hv
  have hcs : cs = [] := List.eq_nil_of_length_eq_zero (by omega)
  subst hcs
  go_enter Tryz.func27, Tryz.ntmps27
  go_wp2
  go_loop [1, 5] (fun q i => q = .int .i64 k ∧ i = .int .i64 0) (fun _ _ => 0)
  case atStart => exact ⟨rfl, rfl⟩
  case round =>
   obtain ⟨rfl, rfl⟩ := hrel
   go_wp2
   go_ret
   exact ⟨ret_int (by simp), grown_refl _ _, HV.out⟩
 ·clear hv
  have HCL := Lib.hid hcl
  clear hcl
  go_enter Tryz.func27, Tryz.ntmps27
  go_wp2
  go_loopw [1, 5] (fun q i wr => ∃ j : Nat, j ≤ n ∧ q = .int .i64 (k + 3 * j) ∧ i = .int .i64 j ∧ w.grownBy wr (some b) ∧ wr.ownsRow lo 62 3 (.slice (some ⟨b, 0, none⟩) n cap) n (markedE k cs j)) (fun _ i _ => n - (intOf i).toNat)
  case atStart => exact ⟨0, Nat.zero_le _, by simp, rfl, grown_refl _ _, by rw [markedE_zero]; exact HV.out⟩
  case round =>
   obtain ⟨j, hj, rfl, rfl, hg, ho⟩ := hrel
   have HG := Lib.hid hg
   clear hg HV
   by_cases hlt : j < n
   ·obtain ⟨xc0, c0⟩ := own_cell ho (j * 3) (by omega)
    have s0 := ho.stored (j * 3) (.int .i64 (k + 3 * j))
    obtain ⟨xc1, c1⟩ := own_cell s0.1 (j * 3 + 1) (by omega)
    have s1 := s0.1.stored (j * 3 + 1) (.int .i64 (k + 3 * j + 1))
    obtain ⟨xc2, c2⟩ := own_cell s1.1 (j * 3 + 2) (by omega)
    have s2 := s1.1.stored (j * 3 + 2) (.int .i64 (k + 3 * j + 1 + 1))
    rw [markedE_set k cs j (by have := HCL.out; omega)] at s2
    have HO := Lib.hid s2.1
    have HGG := Lib.hid (grown_trans (grown_trans (grown_trans HG.out s0.2) s1.2) s2.2)
    obtain ⟨xg1, g1⟩ := own_cell ho (j * 3 + 1) (by omega)
    obtain ⟨xg2, g2⟩ := own_cell ho (j * 3 + 2) (by omega)
    have f0 := ho.frozenAt (j * 3)
    have f1 := ho.frozenAt (j * 3 + 1)
    have f2 := ho.frozenAt (j * 3 + 2)
    clear ho s0 s1 s2
    go_wp2
    go_roundw
    case rel => exact ⟨j + 1, by omega, by go_num, by go_num, HGG.out, HO.out⟩
    case measure => simp [intOf]; omega
   ·go_wp2
    go_ret
    obtain rfl : j = n := by omega
    refine ⟨rfl, HG.out, ?_⟩
    rw [markedE_all k cs j HCL.out] at ho
    exact ho

set_option maxRecDepth 100000 in
set_option maxHeartbeats 1000000 in
theorem heldEdgeS_is (v : Value) (lo n : Nat) (k : Int) (w : World) (h1 : 0 ≤ k) (h2 : k + 3 * n ≤ 1000000000) (hv : SliceK 3 encE lo w v (mrkE k n)) :
  Calls Tryz.prog 30 #[v, .int .i64 k] w fun e w' => e = .returned (.int .i64 (k + 3 * n)) ∧ w = w' := by
 obtain ⟨a, cap, rfl, hn, hcap, hr⟩ := hv
 have hl := mrkE_len k n
 rw [hl] at hn ⊢
 have HL := Lib.hid hl
 have HR := Lib.hid hr
 clear hl hr
 go_enter Tryz.func30, Tryz.ntmps30
 go_wp2
 go_loop [1, 5] (fun q i => ∃ j : Nat, j ≤ n ∧ q = .int .i64 (k + 3 * j) ∧ i = .int .i64 j) (fun _ i => n - (intOf i).toNat)
 case atStart => exact ⟨0, Nat.zero_le _, by simp, rfl⟩
 case round =>
  obtain ⟨j, hj, rfl, rfl⟩ := hrel
  by_cases hlt : j < n
  ·obtain ⟨b, off, rfl, -, -, c0, c1, c2⟩ := HR.out.edge (i := j) (by rw [HL.out]; exact hlt)
   simp only [mrkE, List.getElem_map, List.getElem_range] at c0 c1 c2
   go_wp2
   go_round
   case rel => exact ⟨j + 1, by omega, by go_num, by go_num⟩
   case measure => simp [intOf]; omega
  ·go_wp2
   go_ret
   obtain rfl : j = n := by omega
   exact ⟨rfl, rfl⟩

/-- The system whose slices hold the marks from k on. -/
def mrkL (k : Int) (t : Lts) : Lts := ⟨t.states, t.initial, mrkS k t.labels.length, mrkE (k + t.labels.length) t.edges.length⟩
def markLen (t : Lts) : Int := (t.labels.length : Int) + 3 * (t.edges.length : Int)

set_option maxHeartbeats 1000000 in
theorem heldLts_is (lo : Nat) (lv ev : Value) (t : Lts) (x y : Int) (k : Int) (w : World) (h1 : 0 ≤ k) (h2 : k + markLen t ≤ 1000000000) (hv : OwnLts lo w lv ev (mrkL k t)) :
  Calls Tryz.prog 12 #[.agg #[.int .i64 x, .int .i64 y, lv, ev], .int .i64 k] w fun e w' => e = .returned (.int .i64 (k + markLen t)) ∧ Below w.heap.size w w' := by
 unfold markLen at h2 ⊢
 unfold OwnLts mrkL at hv
 rw [mrkS_len, mrkE_len] at hv
 obtain ⟨al, cl, rfl, -, -⟩ := owns_slice hv.1
 obtain ⟨ae, ce, rfl, -, -⟩ := owns_slice hv.2
 obtain ⟨NL, hNL⟩ : ∃ NL, NL = t.labels.length := ⟨_, rfl⟩
 obtain ⟨NE, hNE⟩ : ∃ NE, NE = t.edges.length := ⟨_, rfl⟩
 rw [← hNL, ← hNE] at hv h2 ⊢
 obtain ⟨W, hW⟩ : ∃ W, W = w.alloc (.cells #[.int .i64 x, .int .i64 y, .slice al NL cl, .slice ae NE ce] 29) := ⟨_, rfl⟩
 have hb0 : Below w.heap.size w W := by rw [hW]; exact (Below.refl _ w).alloc (Nat.le_refl _) _
 have A0 : Hid (Blk W w.heap.size [.int .i64 x, .int .i64 y, .slice al NL cl, .slice ae NE ce] 29) := by unfold Hid; rw [hW]; exact Blk.new w _ _
 have V1 := Lib.hid (owns_below hv.1 hb0)
 have V2 := Lib.hid (owns_below hv.2 hb0)
 have M1 := Lib.hid (heldStringS_is (.slice al NL cl) lo NL k W h1 (by omega) (SliceK.of_owns (e := 9) encS_len (mrkS_len _ _).symm (by rw [flat_encS]; exact V1.out)))
 have HB0 := Lib.hid hb0
 have HW := Lib.hid hW
 have hs0 := hb0.size
 clear hv hb0 hW hNL hNE
 go_enter Tryz.func12, Tryz.ntmps12
 go_wp2_with fail
 rw [← HW.out]
 refine Calls.mono M1.out ?_
 rintro e w1 ⟨rfl, hb1⟩
 have HB1 := Lib.hid (HB0.out.trans (hb1.mono hs0))
 have A1 := Lib.hid (A0.out.below hb1)
 have V3 := Lib.hid (owns_below V2.out hb1)
 have M2 := Lib.hid (heldEdgeS_is (.slice ae NE ce) lo NE (k + NL) w1 (by omega) (by omega) (SliceK.of_owns (e := 62) encE_len (mrkE_len _ _).symm V3.out))
 have a3 := A1.out.cell 3 rfl
 clear hb1 M1
 go_wp2_with fail
 refine Calls.mono M2.out ?_
 rintro e w2 ⟨rfl, rfl⟩
 clear M2
 go_wp2_with fail
 go_ret
 exact ⟨ret_int (by omega), HB1.out⟩

end Go.Proofs.YtodojigmhlkpeaaGreatDoor

namespace Go.Proofs.YtodojigmhlkpeaaGreatDoor
open Go Go.RowKit

/-- The system, the sets, the code. -/
def DetIs (t : Lts) (d : Lts) (xss : List (List Int)) (code : Int) : Prop :=
 (¬ Valid t ∧ d = ⟨0, 0, [], []⟩ ∧ xss = [] ∧ code = 1) ∨ (Valid t ∧ DFull t ∧ d = ⟨0, 0, [], []⟩ ∧ xss = [] ∧ code = 5) ∨ (Valid t ∧ ∃ st, DOk t st ∧ d = dSys t st ∧ xss = st.rows ∧ code = 0)
theorem DetIs.unique {t d d' : Lts} {xss xss' : List (List Int)} {code code' : Int} (h : DetIs t d xss code) (k : DetIs t d' xss' code') : d = d' ∧ xss = xss' ∧ code = code' := by
 rcases h with ⟨h1, h2, h3, h4⟩ | ⟨h1, h2, h3, h4, h5⟩ | ⟨h1, st, h2, h3, h4, h5⟩ <;> rcases k with ⟨k1, k2, k3, k4⟩ | ⟨k1, k2, k3, k4, k5⟩ | ⟨k1, st', k2, k3, k4, k5⟩ <;>
  first
  | exact absurd k1 h1
  | exact absurd h1 k1
  | exact absurd k2 h2.not_full
  | exact absurd h2 k2.not_full
  | exact ⟨h2.trans k2.symm, h3.trans k3.symm, h4.trans k4.symm⟩
  | exact ⟨h3.trans k3.symm, h4.trans k4.symm, h5.trans k5.symm⟩
  | (have := h2.1.unique k2.1; subst this; exact ⟨h3.trans k3.symm, h4.trans k4.symm, h5.trans k5.symm⟩)
/-- Ascending numbers below n are at most n. -/
theorem asc_few : ∀ (n : Nat) (l : List Int), l.Pairwise (· < ·) → (∀ x ∈ l, 0 ≤ x ∧ x < n) → l.length ≤ n
 | n, [], _, _ => by simp
 | 0, a :: l, _, h => by have := h a (by simp); omega
 | n + 1, a :: l, hp, h => by
  have hr : ∀ (k : Int) (m : List Int), m.Pairwise (· < ·) → (∀ x ∈ m, k ≤ x) → ∀ i (hi : i < m.length), k + i ≤ m[i] := by
   intro k m
   induction m generalizing k with
   | nil => intro _ _ i hi; simp at hi
   | cons b m ih =>
    intro hp hk i hi
    rw [List.pairwise_cons] at hp
    cases i with
    | zero => simpa using hk b (by simp)
    | succ i =>
     have h1 := ih (k + 1) hp.2 (fun x hx => by have h2 := hp.1 x hx; have h3 := hk b (by simp); omega) i (by simpa using hi)
     simp only [List.getElem_cons_succ]
     omega
  have h1 := hr 0 (a :: l) hp (fun x hx => (h x hx).1) l.length (by simp)
  have h2 := h ((a :: l)[l.length]'(by simp)) (List.getElem_mem _)
  simp only [List.length_cons]
  omega
theorem total_few {n : Nat} : ∀ {l : List (List Int)}, (∀ r ∈ l, r.length ≤ n) → total l ≤ n * l.length
 | [], _ => by simp [total]
 | a :: l, h => by
  have h1 := h a (by simp)
  have h2 := total_few (l := l) (fun r hr => h r (List.mem_cons_of_mem _ hr))
  simp only [total, List.length_cons, Nat.mul_add, Nat.mul_one]
  omega
theorem DetIs.few {t d : Lts} {xss : List (List Int)} {code : Int} (h : DetIs t d xss code) : (d.labels.length ≤ 12 ∧ d.edges.length ≤ 300) ∧ total xss ≤ 1600 := by
 rcases h with ⟨-, rfl, rfl, -⟩ | ⟨-, -, rfl, rfl, -⟩ | ⟨hv, st, h, rfl, rfl, -⟩
 ·simp [total]
 ·simp [total]
 ·have hG := dok_good hv h
  refine ⟨⟨hv.labels.most, h.2.2⟩, ?_⟩
  have hs := hv.st1
  have h0 := hv.st0
  have := total_few (n := 40) (l := st.rows) (fun r hr => asc_few 40 r (hG.rows r hr).2.1 (fun x hx => by have := (hG.rows r hr).1 x hx; omega))
  have := h.2.1
  have h4 : 40 * st.rows.length ≤ 40 * 40 := Nat.mul_le_mul_left 40 this
  omega
def RetDet (t : Lts) (w : World) (e : Ending) (w' : World) : Prop :=
 Below w.heap.size w w' ∧ ∃ (d : Lts) (xss : List (List Int)) (code : Int) (lv ev v : Value) (vs : List Value), e = .returned (.tuple #[.agg #[.int .i64 d.states, .int .i64 d.initial, lv, ev], v, .int .i64 code]) ∧ DetIs t d xss code ∧ OwnLts w.heap.size w' lv ev d ∧ OwnIntss 48 2 w.heap.size w' v vs xss
theorem det_none {t : Lts} {code : Int} {w w' : World} (hb : Below w.heap.size w w') (h : DetIs t ⟨0, 0, [], []⟩ [] code) : RetDet t w (.returned (.tuple #[.agg #[.int .i64 0, .int .i64 0, .slice none 0 0, .slice none 0 0], .slice none 0 0, .int .i64 code])) w' :=
 ⟨hb, ⟨0, 0, [], []⟩, [], code, _, _, _, [], rfl, h, ⟨World.ownsRow_nil _ _ _ _, World.ownsRow_nil _ _ _ _⟩, rfl, World.ownsRow_nil _ _ _ _, (fun _ h => absurd h (Nat.not_lt_zero _)), (fun _ _ h => absurd h (Nat.not_lt_zero _)), fun _ h => absurd h (Nat.not_lt_zero _)⟩

end Go.Proofs.YtodojigmhlkpeaaGreatDoor
