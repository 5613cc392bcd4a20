/-
  Pairs of numbers in order; the library's comparison of rows of two numbers; its sort of such rows.
  What the small functions of the package laws compute: the size of the arguments, their copies, their comparison.
  The copies of the arguments that the package laws makes.
  What the functions of the laws that mark do.
  What a size that fits says of a system's parts.
  What the joining walks of the exact laws share: copies of systems, boxes, which blocks a mark can turn.
  slices.SortFunc at rows of two numbers of the call's own, by slices.Compare: a permutation in order.
  A map that holds a set: each key leads to true; ranging over it.
-/
import Derived.Test.YtbjbjbnbapeajaaGreatDoorQ6
import Derived.Test.YtbjbjbnbapeajaaGreatDoorQ9
import Derived.Test.YtbjbjbnbapeajaaGreatDoorQ4
import Derived.Shelf.SlSortCmp.Whole1
import Derived.Sort.OwnSorted
import Derived.Test.YtbjbjbnbapeajaaGreatDoorRows
import Derived.Test.YtbjbjbnbapeajaaGreatDoorQ1
import Derived.BigQuiet
import Derived.Deep.QuietTactic
import Derived.Deep.LoopGhost
import Derived.Test.YtbjbjbnbapeajaaGreatDoorQ8
import Derived.Test.YtbjbjbnbapeajaaGreatDoorQ5
import Derived.Maps.RangeRun
namespace Go.Proofs.YtbjbjbnbapeajaaGreatDoor
open Go Go.RowKit Go.Sort

/-- One pair stands before another one. -/
def befQ (p q : Int × Int) : Bool := decide (p.1 < q.1 ∨ (p.1 = q.1 ∧ p.2 < q.2))
theorem befQ_iff {p q : Int × Int} : befQ p q = true ↔ p.1 < q.1 ∨ (p.1 = q.1 ∧ p.2 < q.2) := by unfold befQ; rw [decide_eq_true_eq]
theorem befQ_no {p q : Int × Int} : befQ p q = false ↔ ¬ (p.1 < q.1 ∨ (p.1 = q.1 ∧ p.2 < q.2)) := by unfold befQ; rw [decide_eq_false_iff_not]
def cmpQ (p q : Int × Int) : Int := if p.1 = q.1 then Lib.compareInt p.2 q.2 else Lib.compareInt p.1 q.1
theorem cmpQ_lt (p q : Int × Int) : decide (cmpQ p q < 0) = befQ p q := by
 have h : cmpQ p q < 0 ↔ (p.1 < q.1 ∨ (p.1 = q.1 ∧ p.2 < q.2)) := by
  unfold cmpQ Lib.compareInt
  split
  ·split
   ·omega
   ·split <;> omega
  ·split
   ·omega
   ·split <;> omega
 unfold befQ
 exact decide_eq_decide.2 h
theorem cmpQ_first {p q : Int × Int} (h : Lib.compareInt p.1 q.1 ≠ 0) : cmpQ p q = Lib.compareInt p.1 q.1 := by
 unfold cmpQ
 rw [if_neg]
 intro e
 apply h
 rw [e]
 unfold Lib.compareInt
 rw [if_neg (by omega), if_neg (by omega)]
theorem cmpQ_next {p q : Int × Int} (h : Lib.compareInt p.1 q.1 = 0) : cmpQ p q = Lib.compareInt p.2 q.2 := by
 unfold cmpQ
 rw [if_pos]
 unfold Lib.compareInt at h
 split at h
 ·cases h
 ·split at h
  ·cases h
  ·omega
/-- The pair at a place, the row's header at a place; the places go round. -/
def prAt (ps : List (Int × Int)) (i : Nat) : Int × Int := ps.getD (i % ps.length) (0, 0)
def hdQ (vs : List Value) (i : Nat) : Value := vs.getD (i % vs.length) (.slice none 0 0)
theorem prAt_lt {ps : List (Int × Int)} {i : Nat} (h : i < ps.length) : prAt ps i = ps[i] := by unfold prAt; rw [Nat.mod_eq_of_lt h, List.getD_eq_getElem?_getD, List.getElem?_eq_getElem h]; rfl
theorem hdQ_lt {vs : List Value} {i : Nat} (h : i < vs.length) : hdQ vs i = vs[i] := by unfold hdQ; rw [Nat.mod_eq_of_lt h, List.getD_eq_getElem?_getD, List.getElem?_eq_getElem h]; rfl
theorem map_prAt (ps : List (Int × Int)) : (List.range ps.length).map (prAt ps) = ps := by
 apply List.ext_getElem (by simp)
 intro i h1 h2
 simp only [List.getElem_map, List.getElem_range]
 exact prAt_lt h2
theorem swo_befQ (ps : List (Int × Int)) : SWO (ltOf fun i j => cmpQ (prAt ps i) (prAt ps j)) := by
 have h : ltOf (fun i j => cmpQ (prAt ps i) (prAt ps j)) = fun i j => befQ (prAt ps i) (prAt ps j) := by
  funext i j
  exact cmpQ_lt _ _
 rw [h]
 refine ⟨fun x => by rw [befQ_no]; omega, fun x y z h1 h2 => ?_, fun x y z h1 h2 => ?_⟩
 ·simp only [befQ_iff] at *
  omega
 ·simp only [befQ_no] at *
  omega

def rowQ (q : Int × Int) : List Int := [q.1, q.2]
theorem prow_asc (x y : Nat) : (prow x y).Pairwise fun p q => befQ p q = true := by
 unfold prow
 rw [List.pairwise_map]
 refine List.pairwise_lt_range.imp fun {i j} h => ?_
 rw [befQ_iff]
 exact .inr ⟨rfl, by show (i : Int) < (j : Int); omega⟩
theorem pall_asc (P : Nat) : ∀ x : Nat, (pall P x).Pairwise fun p q => befQ p q = true
 | 0 => by unfold pall; simp
 | x + 1 => by
  rw [pall_succ, List.pairwise_append]
  refine ⟨pall_asc P x, prow_asc x P, fun p hp q hq => ?_⟩
  rw [mem_pall] at hp
  rw [mem_prow] at hq
  rw [befQ_iff]
  omega
/-- Pairs, each once, in order: the list that the statement names. -/
theorem pairs_sorted {S P : Nat} {ps qs : List (Int × Int)} (hmem : ∀ q, q ∈ qs ↔ q ∈ ps) (hn : qs.Nodup) (hs : qs.Pairwise fun p q => befQ q p = false) (hr : ∀ q ∈ ps, (0 ≤ q.1 ∧ q.1 < S) ∧ 0 ≤ q.2 ∧ q.2 < P) : qs.map rowQ = pairsL S P (setOf ps) := by
 unfold pairsL
 have h : qs = (pall P S).filter fun q => setOf ps q.1 q.2 := by
  refine rise_unique (fun p q => befQ p q = true) (fun p h => by rw [befQ_iff] at h; omega) (fun p q h k => by rw [befQ_iff] at h k; omega) _ _ ?_ ((pall_asc P S).sublist List.filter_sublist) fun q => ?_
  ·have h2 := (hs.and (List.nodup_iff_pairwise_ne.1 hn))
   refine h2.imp fun {p q} h => ?_
   obtain ⟨h1, h2⟩ := h
   rw [befQ_no] at h1
   rw [befQ_iff]
   by_cases e : p.1 = q.1
   ·by_cases e2 : p.2 = q.2
    ·exact absurd (Prod.ext e e2) h2
    ·omega
   ·omega
  ·rw [hmem, List.mem_filter, mem_pall]
   constructor
   ·intro h
    exact ⟨hr q h, setOf_iff.2 h⟩
   ·exact fun h => setOf_iff.1 h.2
 rw [h]
 rfl

set_option maxRecDepth 100000 in
set_option maxHeartbeats 1000000 in
theorem CompareQ_any (lo : Nat) (av bv : Value) (p q : Int × Int) (w : World) (ha : SliceK 1 encI lo w av (rowQ p)) (hb : SliceK 1 encI lo w bv (rowQ q)) :
  Calls Tryz.prog 66 #[av, bv] w fun e w' => e = .returned (.int .i64 (cmpQ p q)) ∧ Below w.heap.size w w' ∧ w.drawn ≤ w'.drawn := by
 obtain ⟨a, c, rfl, -, -, hra⟩ := ha
 obtain ⟨a2, c2, rfl, -, -, hrb⟩ := hb
 obtain ⟨b1, o1, rfl, -, hw1, c10⟩ := hra.one (show 0 < (rowQ p).length from Nat.succ_pos _)
 obtain ⟨b1', o1', e1, -, hw1', c11⟩ := hra.one (show 1 < (rowQ p).length from Nat.lt_succ_self _)
 obtain ⟨b2, o2, rfl, -, hw2, c20⟩ := hrb.one (show 0 < (rowQ q).length from Nat.succ_pos _)
 obtain ⟨b2', o2', e2, -, hw2', c21⟩ := hrb.one (show 1 < (rowQ q).length from Nat.lt_succ_self _)
 simp only [Option.some.injEq, Addr.mk.injEq, and_true] at e1 e2
 obtain ⟨rfl, rfl⟩ := e1
 obtain ⟨rfl, rfl⟩ := e2
 simp only [encI, rowQ, List.getElem?_cons_zero, List.getElem_cons_zero, List.getElem_cons_succ] at c10 c11 c20 c21
 have HF1 := fun h => cmpQ_first (p := p) (q := q) h
 have HF2 := fun h => cmpQ_next (p := p) (q := q) h
 obtain ⟨p1, p2⟩ := p
 obtain ⟨q1, q2⟩ := q
 simp only at c10 c11 c20 c21 HF1 HF2
 obtain ⟨d1, hd1⟩ : ∃ d1, d1 = Lib.compareInt p1 q1 := ⟨_, rfl⟩
 obtain ⟨d2, hd2⟩ : ∃ d2, d2 = Lib.compareInt p2 q2 := ⟨_, rfl⟩
 have HC1 := Lib.hid (fun w' => Tryz.cmp_Compare_int p1 q1 w')
 have HC2 := Lib.hid (fun w' => Tryz.cmp_Compare_int p2 q2 w')
 rw [← hd1] at HC1 HF1 HF2
 rw [← hd2] at HC2 HF2
 obtain ⟨cv, hcv⟩ : ∃ cv, cv = cmpQ (p1, p2) (q1, q2) := ⟨_, rfl⟩
 rw [← hcv] at HF1 HF2 ⊢
 have HG1 := Lib.hid HF1
 have HG2 := Lib.hid HF2
 clear HF1 HF2 hd1 hd2 hcv hra hrb
 show Calls Tryz.prog 66 #[.slice (some ⟨b1, o1, none⟩) 2 c, .slice (some ⟨b2, o2, none⟩) 2 c2] w _
 simp only [Nat.add_zero] at c10 c11 c20 c21
 go_enter Tryz.func66, Tryz.ntmps66
 go_wp2_with fail
 by_cases h1 : d1 = 0
 ·have HE : Hid (cv = d2) := HG2.out h1
  subst h1
  refine wp_loop_rounds 3 ?_
  rw [rounds_succ]
  go_wp2_with fail
  refine Calls.mono (HC1.out _) ?_
  rintro e w2 ⟨rfl, rfl⟩
  go_wp2_with fail
  rw [rounds_succ]
  go_wp2_with fail
  refine Calls.mono (HC2.out _) ?_
  rintro e w2 ⟨rfl, rfl⟩
  by_cases h2 : d2 = 0
  ·subst h2
   go_wp2_with fail
   rw [rounds_succ]
   go_wp2
   go_ret
   exact ⟨ret_int HE.out.symm, Below.refl _ _, Nat.le_refl _⟩
  ·go_wp2
   go_ret
   exact ⟨ret_int HE.out.symm, Below.refl _ _, Nat.le_refl _⟩
 ·have HE : Hid (cv = d1) := HG1.out h1
  refine wp_loop_rounds 1 ?_
  rw [rounds_succ]
  go_wp2_with fail
  refine Calls.mono (HC1.out _) ?_
  rintro e w2 ⟨rfl, rfl⟩
  go_wp2
  go_ret
  exact ⟨ret_int HE.out.symm, Below.refl _ _, Nat.le_refl _⟩

end Go.Proofs.YtbjbjbnbapeajaaGreatDoor

namespace Go.Proofs.YtbjbjbnbapeajaaGreatDoor
open Go Go.RowKit

def szS (ss : List ByteArray) (left : Int) : Int :=
 match ss with
 | [] => left
 | s :: r => if left - s.size < 0 then -1 else szS r (left - s.size)

theorem szS_lt (ss : List ByteArray) (left : Int) (h : 0 ≤ left) : -1 ≤ szS ss left ∧ szS ss left ≤ left := by
 induction ss generalizing left with
 | nil => simp [szS]; omega
 | cons s r ih =>
  unfold szS
  split
  ·omega
  ·have := ih (left - s.size) (by omega); omega

/-- What szStringS returns. -/
def szSS (ss : List ByteArray) (left : Int) : Int := if left - ss.length < 0 then -1 else szS ss (left - ss.length)
theorem szSS_neg {ss : List ByteArray} {left : Int} (h : left - ss.length < 0) : szSS ss left = -1 := by unfold szSS; rw [if_pos h]
theorem szSS_pos {ss : List ByteArray} {left : Int} (h : ¬ left - ss.length < 0) : szSS ss left = szS ss (left - ss.length) := by unfold szSS; rw [if_neg h]
def szN (n : Nat) (left : Int) : Int := if left - n < 0 then -1 else left - n
theorem szN_neg {n : Nat} {left : Int} (h : left - n < 0) : szN n left = -1 := by unfold szN; rw [if_pos h]
theorem szN_pos {n : Nat} {left : Int} (h : ¬ left - n < 0) : szN n left = left - n := by unfold szN; rw [if_neg h]

set_option maxHeartbeats 400000 in
theorem szStringS_any (v : Value) (lo : Nat) (ss : List ByteArray) (left : Int) (w : World)
   (h1 : 0 ≤ left) (h2 : left ≤ 1048576) (hs : StrsOk ss) (hv : SliceK 1 encS lo w v ss) :
  Calls Tryz.prog 17 #[v, .int .i64 left] w fun e w' => e = .returned (.int .i64 (szSS ss left)) ∧ w = w' := by
 have hS := Lib.hid hs
 clear hs
 obtain ⟨a, cap, rfl, hn, hcap, hr⟩ := hv
 by_cases hl : left - ss.length < 0
 ·go_enter Tryz.func17, Tryz.ntmps17
  go_wp2
  go_ret
  exact ⟨ret_int (szSS_neg hl).symm, rfl⟩
 ·go_enter Tryz.func17, Tryz.ntmps17
  go_wp2
  go_loop [1, 5] (fun t i => ∃ k : Nat, ∃ l : Int, k ≤ ss.length ∧ i = .int .i64 k ∧ t = .int .i64 l ∧ 0 ≤ l ∧ l ≤ 1048576 ∧ szS (ss.drop k) l = szS ss (left - ss.length)) (fun _ i => ss.length - (intOf i).toNat)
  case atStart => exact ⟨0, _, Nat.zero_le _, rfl, rfl, by omega, by omega, rfl⟩
  case round =>
   obtain ⟨k, l, hk, rfl, rfl, hl0, hl1, hs⟩ := hrel
   have hs' := Lib.hid hs
   clear hs
   by_cases hlt : k < ss.length
   ·have hsk := hS.out _ (List.getElem_mem hlt)
    obtain ⟨b, off, rfl, -, -, hck⟩ := hr.one hlt
    simp only [encS, List.getElem?_cons_zero] at hck
    clear hr
    have hd : Hid (szS (ss.drop k) l = if l - (ss[k]).size < 0 then -1 else szS (ss.drop (k+1)) (l - (ss[k]).size)) := by
     unfold Hid; rw [List.drop_eq_getElem_cons hlt, szS]
    by_cases hz : l - (ss[k]).size < 0
    ·go_wp2
     go_ret
     refine ⟨?_, rfl⟩
     exact ret_int (by rw [szSS_pos (by omega), ← hs'.out, hd.out, if_pos (by omega)])
    ·go_wp2
     go_round
     case rel => exact ⟨k+1, _, by omega, by go_num, rfl, by omega, by omega, by rw [← hs'.out, hd.out, if_neg (by omega)]⟩
     case measure => simp [intOf]; omega
   ·clear hr
    go_wp2
    go_ret
    refine ⟨?_, rfl⟩
    have : k = ss.length := by omega
    exact ret_int (by rw [szSS_pos (by omega), ← hs'.out]; simp [this, szS])

theorem szEdgeS_any (a : Option Addr) (cap n : Nat) (left : Int) (w : World) (h1 : 0 ≤ left) (h2 : left ≤ 1048576) (hn : n ≤ cap) (hcap : cap ≤ 9223372036854775807) :
  Calls Tryz.prog 18 #[.slice a n cap, .int .i64 left] w fun e w' => e = .returned (.int .i64 (szN n left)) ∧ w = w' := by
 by_cases hl : left - n < 0
 ·go_enter Tryz.func18, Tryz.ntmps18
  go_wp2
  go_ret
  exact ⟨ret_int (szN_neg hl).symm, rfl⟩
 ·go_enter Tryz.func18, Tryz.ntmps18
  go_wp2
  go_ret
  exact ⟨ret_int (szN_pos (by omega)).symm, rfl⟩

/-- What szLts returns. -/
def szL (t : Lts) (left : Int) : Int :=
 if szSS t.labels left < 0 then -1
 else if szN t.edges.length (szSS t.labels left) < 0 then -1
 else szN t.edges.length (szSS t.labels left)

theorem szSS_le (ss : List ByteArray) (left : Int) (h : 0 ≤ left) : -1 ≤ szSS ss left ∧ szSS ss left ≤ left := by
 unfold szSS
 split
 ·omega
 ·have := szS_lt ss (left - ss.length) (by omega); omega

set_option maxHeartbeats 400000 in
theorem szLts_any (v : Value) (lo : Nat) (t : Lts) (left : Int) (w : World)
   (h1 : 0 ≤ left) (h2 : left ≤ 1048576) (hs : StrsOk t.labels) (hv : LtsAt lo w v t) :
  Calls Tryz.prog 5 #[v, .int .i64 left] w
   fun e w' => e = .returned (.int .i64 (szL t left)) ∧ Below w.heap.size w w' := by
 have hb := szSS_le t.labels left h1
 have hS := Lib.hid hs
 clear hs
 obtain ⟨lv, ev, rfl, hl, ae, ce, rfl, hn, hcap, hr⟩ := hv
 go_enter Tryz.func5, Tryz.ntmps5
 go_wp2_with fail
 refine (szStringS_any _ _ _ _ _ h1 h2 hS.out (hl.below ((Below.refl _ w).alloc (Nat.le_refl _) _))).mono ?_
 clear hl hr
 rintro e w' ⟨rfl, rfl⟩
 have hf : Hid (szL t left = if szSS t.labels left < 0 then -1 else if szN t.edges.length (szSS t.labels left) < 0 then -1 else szN t.edges.length (szSS t.labels left)) := rfl
 generalize szSS t.labels left = q at *
 by_cases hl : q < 0
 ·go_wp2_with fail
  go_ret
  exact ⟨ret_int (by rw [hf.out, if_pos hl]), (Below.refl _ _).alloc (Nat.le_refl _) _⟩
 ·go_wp2_with fail
  refine (szEdgeS_any _ _ _ _ _ (by omega) (by omega) hn hcap).mono ?_
  rintro e w' ⟨rfl, rfl⟩
  generalize szN t.edges.length q = q2 at *
  by_cases hl2 : q2 < 0
  ·go_wp2_with fail
   go_ret
   exact ⟨ret_int (by rw [hf.out, if_neg (by omega), if_pos (by omega)]), (Below.refl _ _).alloc (Nat.le_refl _) _⟩
  ·go_wp2_with fail
   go_ret
   exact ⟨ret_int (by rw [hf.out, if_neg (by omega), if_neg (by omega)]), (Below.refl _ _).alloc (Nat.le_refl _) _⟩

set_option maxHeartbeats 400000 in
theorem eqStringS_same (va vb : Value) (lo lo' : Nat) (xs : List ByteArray) (w : World) (hva : SliceK 1 encS lo w va xs) (hvb : SliceK 1 encS lo' w vb xs) :
  Calls Tryz.prog 25 #[va, vb] w fun e w' => e = .returned (.bool true) ∧ Below w.heap.size w w' := by
 obtain ⟨a, ca, rfl, hna, hca, ha⟩ := hva
 obtain ⟨b, cb, rfl, hnb, hcb, hb⟩ := hvb
 go_enter Tryz.func25, Tryz.ntmps25
 go_wp2
 go_loopw [5] (fun i wr => ∃ k : Nat, k ≤ xs.length ∧ i = .int .i64 k ∧ Below w.heap.size w wr) (fun i _ => xs.length - (intOf i).toNat)
 case atStart => exact ⟨0, Nat.zero_le _, rfl, Below.refl _ _⟩
 case round =>
  obtain ⟨k, hk, rfl, hbl⟩ := hrel
  by_cases hlt : k < xs.length
  ·obtain ⟨b1, o1, rfl, -, h1, c1⟩ := ha.one hlt
   obtain ⟨b2, o2, rfl, -, h2, c2⟩ := hb.one hlt
   simp only [encS, List.getElem?_cons_zero] at c1 c2
   replace c1 := keeps hbl h1 c1
   replace c2 := keeps hbl h2 c2
   clear ha hb
   go_wp2
   go_quiet (fail)
   go_wp2
   go_roundw
   case rel => exact ⟨k + 1, by omega, by go_num, drews hbl _⟩
   case measure => simp [intOf]; omega
  ·clear ha hb
   go_wp2
   go_ret
   exact ⟨rfl, hbl⟩

set_option maxHeartbeats 400000 in
theorem eqEdge_same (x y z : Int) (w : World) :
  Calls Tryz.prog 55 #[.agg #[.int .i64 x, .int .i64 y, .int .i64 z], .agg #[.int .i64 x, .int .i64 y, .int .i64 z]] w fun e w' => e = .returned (.bool true) ∧ Below w.heap.size w w' := by
 go_enter Tryz.func55, Tryz.ntmps55
 go_wp2
 go_ret
 exact ⟨rfl, ((Below.refl _ _).alloc (Nat.le_refl _) _).alloc (by simp) _⟩

set_option maxHeartbeats 400000 in
theorem eqEdgeS_same (va vb : Value) (lo lo' : Nat) (xs : List Edge) (w : World) (hva : SliceK 3 encE lo w va xs) (hvb : SliceK 3 encE lo' w vb xs) :
  Calls Tryz.prog 26 #[va, vb] w fun e w' => e = .returned (.bool true) ∧ Below w.heap.size w w' := by
 obtain ⟨a, ca, rfl, hna, hca, ha⟩ := hva
 obtain ⟨b, cb, rfl, hnb, hcb, hb⟩ := hvb
 go_enter Tryz.func26, Tryz.ntmps26
 go_wp2
 go_loopw [5] (fun i wr => ∃ k : Nat, k ≤ xs.length ∧ i = .int .i64 k ∧ Below w.heap.size w wr) (fun i _ => xs.length - (intOf i).toNat)
 case atStart => exact ⟨0, Nat.zero_le _, rfl, Below.refl _ _⟩
 case round =>
  obtain ⟨k, hk, rfl, hbl⟩ := hrel
  by_cases hlt : k < xs.length
  ·obtain ⟨b1, o1, rfl, -, h1, c1, c2, c3⟩ := (ha.below hbl).edge hlt
   obtain ⟨b2, o2, rfl, -, h2, c4, c5, c6⟩ := (hb.below hbl).edge hlt
   replace c1 := later_cell h1 c1
   replace c2 := later_cell h1 c2
   replace c3 := later_cell h1 c3
   replace c4 := later_cell h2 c4
   replace c5 := later_cell h2 c5
   replace c6 := later_cell h2 c6
   clear ha hb
   go_wp2
   refine wp_region_later (by kernel_rfl) (by kernel_rfl) ?_
   repeat (go_big_quiet_step ((go_at_call 55; exact later_call (eqEdge_same _ _ _ _))))
   refine wpQuiet_nil ?_
   intro _ hw9
   obtain ⟨nl, hw8⟩ := hw9
   subst hw8
   go_wp2
   go_roundw
   case rel => exact ⟨k + 1, by omega, by go_num, hbl.trans (nl.h.mono hbl.size)⟩
   case measure => simp [intOf]; omega
  ·clear ha hb
   go_wp2
   go_ret
   exact ⟨rfl, hbl⟩

set_option maxHeartbeats 400000 in
theorem eqLts_same (va vb : Value) (lo lo' : Nat) (t : Lts) (w : World) (hva : LtsAt lo w va t) (hvb : LtsAt lo' w vb t) :
  Calls Tryz.prog 9 #[va, vb] w fun e w' => e = .returned (.bool true) ∧ Below w.heap.size w w' := by
 obtain ⟨la, ea, rfl, h1, h2⟩ := hva
 obtain ⟨lb, eb, rfl, h3, h4⟩ := hvb
 have hw0 : ∀ o1 o2, Below w.heap.size w ((w.alloc o1).alloc o2) := fun _ _ => ((Below.refl _ _).alloc (Nat.le_refl _) _).alloc (by simp) _
 have H0 := Lib.hid hw0
 have H1 := Lib.hid h1
 have H2 := Lib.hid h2
 have H3 := Lib.hid h3
 have H4 := Lib.hid h4
 clear hw0
 obtain ⟨_, _, rfl, -⟩ := h1
 obtain ⟨_, _, rfl, -⟩ := h2
 obtain ⟨_, _, rfl, -⟩ := h3
 obtain ⟨_, _, rfl, -⟩ := h4
 go_enter Tryz.func9, Tryz.ntmps9
 go_wp2_with fail
 refine (eqStringS_same _ _ _ _ _ _ (SliceK.below H1.out (H0.out _ _)) (SliceK.below H3.out (H0.out _ _))).mono ?_
 rintro e w1 ⟨rfl, hb1⟩
 obtain ⟨hc1, -⟩ := both hb1
 have hz := hb1.size
 simp only [World.size_alloc] at hz
 go_wp2_with fail
 refine (eqEdgeS_same _ _ _ _ _ _ (SliceK.below H2.out ((H0.out _ _).trans (hb1.mono (by simp; omega)))) (SliceK.below H4.out ((H0.out _ _).trans (hb1.mono (by simp; omega))))).mono ?_
 rintro e w2 ⟨rfl, hb2⟩
 go_wp2_with fail
 go_ret
 exact ⟨rfl, (H0.out _ _).trans ((hb1.mono (by simp; omega)).trans (hb2.mono (by omega)))⟩

end Go.Proofs.YtbjbjbnbapeajaaGreatDoor

namespace Go.Proofs.YtbjbjbnbapeajaaGreatDoor
open Go Go.RowKit

theorem info_string : (Tryz.prog.info? 9).map (fun i => (i.zero, i.size, i.bytes)) = some (some (.string ⟨#[]⟩), 1, 16) := by kernel_rfl
theorem info_edge : (Tryz.prog.info? 73).map (fun i => (i.zero, i.size, i.bytes)) = some (some (.agg #[.int .i64 0, .int .i64 0, .int .i64 0]), 3, 24) := by kernel_rfl

def MadeStrs (w : World) (ss : List ByteArray) (e : Ending) (w' : World) : Prop :=
 e = .returned (.slice (some ⟨w.heap.size, 0, none⟩) ss.length ss.length) ∧ Below w.heap.size w w' ∧ w.heap.size < w'.heap.size ∧ w'.ownsRow w.heap.size 9 1 (.slice (some ⟨w.heap.size, 0, none⟩) ss.length ss.length) ss.length (ss.map .string)

set_option maxHeartbeats 400000 in
theorem toStringS_any (v : Value) (lo : Nat) (ss : List ByteArray) (w : World) (hn : ss.length ≤ 1048576) (hv : SliceK 1 encS lo w v ss) :
  Calls Tryz.prog 21 #[v] w (MadeStrs w ss) := by
 obtain ⟨a, ca, rfl, hna, hca, ha⟩ := hv
 obtain ⟨i0, hi, hz0, hz1, hz2⟩ := info_parts info_string
 go_enter Tryz.func21, Tryz.ntmps21
 go_wp2_with (at_make; refine wpList_make_full _ rfl _ _ 22 rfl w.heap.size 9 i0 _ 1 Tryz.underlying22 hi hz0 hz1 .i64 .i64 _ _ ss.length rfl rfl rfl rfl ?_ ?_ ?_ ?_)
 ·rw [hz2]; omega
 ·simp [maxLen]; omega
 ·exact Nat.le_refl _
 ·intro w1 ho hg
  rw [toList_madeCells_one] at ho
  have hb1 : Below w.heap.size w w1 := (Below.refl _ w).grown hg (Nat.le_refl _) (fun _ h => by cases h)
  clear hi hz0 hz1 hz2 i0
  have HO := Lib.hid ho
  clear ho hg
  go_wp2
  go_loopw [4] (fun i wr => ∃ k : Nat, k ≤ ss.length ∧ i = .int .i64 k ∧ Below w.heap.size w wr ∧ wr.ownsRow w.heap.size 9 1 (.slice (some ⟨w.heap.size, 0, none⟩) ss.length ss.length) ss.length ((ss.take k).map .string ++ List.replicate (ss.length - k) (.string ⟨#[]⟩))) (fun i _ => ss.length - (intOf i).toNat)
  case atStart => exact ⟨0, Nat.zero_le _, rfl, hb1, by simpa using HO.out⟩
  case round =>
   obtain ⟨k, hk, rfl, hbl, ho⟩ := hrel
   clear HO hb1
   by_cases hlt : k < ss.length
   ·obtain ⟨b1, o1, rfl, -, h1, c1⟩ := (ha.below hbl).one hlt
    simp only [encS, List.getElem?_cons_zero] at c1
    have c2 := ho.cellAt k (by omega)
    rw [filled_get _ _ _ _ hlt] at c2
    have c3 := ho.frozenAt k
    have ho2 := ho.stored k (.string ss[k])
    rw [filled_set _ _ _ _ hlt] at ho2
    have HO := Lib.hid ho2
    clear ho ho2 ha
    go_wp2
    go_roundw
    case rel => exact ⟨k + 1, by omega, by go_num, hbl.setCell (by exact Nat.le_refl _) _, HO.out.1⟩
    case measure => simp [intOf]; omega
   ·clear ha
    go_wp2
    go_ret
    have hke : k = ss.length := by omega
    subst hke
    exact ⟨rfl, hbl, (ho.lt _ rfl).2, by simpa using ho⟩

def RetEdge (w : World) (x y z : Int) (e : Ending) (w' : World) : Prop := e = .returned (.agg #[.int .i64 x, .int .i64 y, .int .i64 z]) ∧ Below w.heap.size w w'

set_option maxHeartbeats 400000 in
theorem toEdge_any (x y z : Int) (w : World) : Calls Tryz.prog 45 #[.agg #[.int .i64 x, .int .i64 y, .int .i64 z]] w (RetEdge w x y z) := by
 go_enter Tryz.func45, Tryz.ntmps45
 go_wp2
 refine bodyPost_ret (v := .agg #[.int .i64 x, .int .i64 y, .int .i64 z]) (by simp [results, Tryz.results45, go_sem]) rfl ⟨rfl, ?_⟩
 repeat (first | exact Below.refl _ _ | refine Below.setCell ?_ (by simp) _ | refine Below.alloc ?_ (by simp; try omega) _)

def MadeEdges (w : World) (es : List Edge) (e : Ending) (w' : World) : Prop :=
 e = .returned (.slice (some ⟨w.heap.size, 0, none⟩) es.length es.length) ∧ Below w.heap.size w w' ∧ w.heap.size < w'.heap.size ∧ w'.ownsRow w.heap.size 73 3 (.slice (some ⟨w.heap.size, 0, none⟩) es.length es.length) es.length (es.flatMap encE)

set_option maxHeartbeats 1000000 in
theorem toEdgeS_any (v : Value) (lo : Nat) (es : List Edge) (w : World) (hn : es.length ≤ 1048576) (hv : SliceK 3 encE lo w v es) :
  Calls Tryz.prog 22 #[v] w (MadeEdges w es) := by
 obtain ⟨a, ca, rfl, hna, hca, ha⟩ := hv
 obtain ⟨i0, hi, hz0, hz1, hz2⟩ := info_parts info_edge
 go_enter Tryz.func22, Tryz.ntmps22
 go_wp2_with (at_make; refine wpList_make_full _ rfl _ _ 27 rfl w.heap.size 73 i0 _ 3 Tryz.underlying27 hi hz0 hz1 .i64 .i64 _ _ es.length rfl rfl rfl rfl ?_ ?_ ?_ ?_)
 ·rw [hz2]; omega
 ·simp [maxLen]; omega
 ·exact Nat.le_refl _
 ·intro w1 ho hg
  have hb1 : Below w.heap.size w w1 := (Below.refl _ w).grown hg (Nat.le_refl _) (fun _ h => by cases h)
  have ho1 : w1.ownsRow w.heap.size 73 3 (.slice (some ⟨w.heap.size, 0, none⟩) es.length es.length) es.length (List.replicate (es.length * 3) (.int .i64 0)) := by
   have : (madeCells #[.int .i64 0, .int .i64 0, .int .i64 0] (es.length * 3)).toList = List.replicate (es.length * 3) (Value.int .i64 0) := by
    apply List.ext_getElem?
    intro j
    by_cases hj : j < es.length * 3
    ·have h3 : j % 3 < 3 := Nat.mod_lt _ (by omega)
     simp only [madeCells, Array.toList_map, Array.toList_range, List.getElem?_map, List.getElem?_range hj, List.getElem?_replicate, if_pos hj, Option.map_some]
     show some (#[Value.int IntKind.i64 0, Value.int IntKind.i64 0, Value.int IntKind.i64 0][j % 3]!) = _
     generalize j % 3 = q at h3
     match q, h3 with
     | 0, _ => rfl
     | 1, _ => rfl
     | 2, _ => rfl
    ·simp [madeCells, hj]
   rw [this] at ho
   exact ho
  clear hi hz0 hz1 hz2 i0
  have HO := Lib.hid ho1
  clear ho hg ho1
  go_wp2
  go_loopw [4] (fun i wr => ∃ k : Nat, k ≤ es.length ∧ i = .int .i64 k ∧ Below w.heap.size w wr ∧ w.heap.size < wr.heap.size ∧ wr.ownsRow w.heap.size 73 3 (.slice (some ⟨w.heap.size, 0, none⟩) es.length es.length) es.length ((es.take k).flatMap encE ++ List.replicate ((es.length - k) * 3) (.int .i64 0))) (fun i _ => es.length - (intOf i).toNat)
  case atStart => exact ⟨0, Nat.zero_le _, rfl, hb1, (HO.out.lt _ rfl).2, by simpa using HO.out⟩
  case round =>
   obtain ⟨k, hk, rfl, hbl, hsz, ho⟩ := hrel
   clear HO hb1
   by_cases hlt : k < es.length
   ·obtain ⟨b1, o1, rfl, -, h1, c1, c2, c3⟩ := (ha.below hbl).edge hlt
    have HO := Lib.hid ho
    clear ho ha
    go_wp2_with fail
    refine (toEdge_any _ _ _ _).mono ?_
    rintro e w2 ⟨rfl, hb2⟩
    have ho := owns_below HO.out hb2
    clear c1 c2 c3
    have d0 := (ho.cellAt (k * 3) (by omega)).trans (filledE_get _ _ _ 0 hlt (by omega))
    have s0 := (ho.stored (k * 3) (.int .i64 es[k].src)).1
    have d1 := s0.cellAt (k * 3 + 1) (by omega)
    rw [List.getElem?_set_ne (by omega), filledE_get _ _ _ _ hlt (by omega)] at d1
    have s1 := (s0.stored (k * 3 + 1) (.int .i64 es[k].lab)).1
    have d2 := s1.cellAt (k * 3 + 2) (by omega)
    rw [List.getElem?_set_ne (by omega), List.getElem?_set_ne (by omega), filledE_get _ _ _ _ hlt (by omega)] at d2
    have g1 := ho.cellAt (k * 3 + 1) (by omega)
    rw [filledE_get _ _ _ _ hlt (by omega)] at g1
    have g2 := ho.cellAt (k * 3 + 2) (by omega)
    rw [filledE_get _ _ _ _ hlt (by omega)] at g2
    have f0 := ho.frozenAt (k * 3)
    have f3 := ho.frozenAt (k * 3 + 1)
    have f4 := ho.frozenAt (k * 3 + 2)
    have f1 := s0.frozenAt (k * 3 + 1)
    have f2 := s1.frozenAt (k * 3 + 2)
    have ho2 := (s1.stored (k * 3 + 2) (.int .i64 es[k].dst)).1
    rw [filledE_set _ _ _ hlt] at ho2
    clear s0 s1
    have HO2 := Lib.hid ho2
    have hsz2 := hb2.size
    clear ho ho2 HO
    go_wp2
    go_roundw
    case rel => exact ⟨k + 1, by omega, by go_num, (((hbl.trans (hb2.mono hbl.size)).setCell (by exact Nat.le_refl _) _).setCell (by exact Nat.le_refl _) _).setCell (by exact Nat.le_refl _) _, by simp; omega, HO2.out⟩
    case measure => simp [intOf]; omega
   ·clear ha
    go_wp2
    go_ret
    have hke : k = es.length := by omega
    subst hke
    exact ⟨rfl, hbl, (ho.lt _ rfl).2, by simpa using ho⟩

/-- A copy of a system, in memory of the call's own: its labels lie in one new block, its edges in a later one. -/
def MadeLts (w : World) (t : Lts) (e : Ending) (w' : World) : Prop :=
 ∃ b1 b2, e = .returned (.agg #[.int .i64 t.states, .int .i64 t.initial, .slice (some ⟨b1, 0, none⟩) t.labels.length t.labels.length, .slice (some ⟨b2, 0, none⟩) t.edges.length t.edges.length]) ∧ Below w.heap.size w w' ∧ w.heap.size ≤ b1 ∧ b1 < b2 ∧ b2 < w'.heap.size
  ∧ w'.ownsRow w.heap.size 9 1 (.slice (some ⟨b1, 0, none⟩) t.labels.length t.labels.length) t.labels.length (t.labels.map .string) ∧ w'.ownsRow b2 73 3 (.slice (some ⟨b2, 0, none⟩) t.edges.length t.edges.length) t.edges.length (t.edges.flatMap encE)

set_option maxHeartbeats 1000000 in
theorem toLts_any (v : Value) (lo : Nat) (t : Lts) (w : World) (hl : t.labels.length ≤ 1048576) (he : t.edges.length ≤ 1048576) (hv : LtsAt lo w v t) :
  Calls Tryz.prog 7 #[v] w (MadeLts w t) := by
 obtain ⟨lv, ev, rfl, h1, h2⟩ := hv
 have H1 := Lib.hid h1
 have H2 := Lib.hid h2
 obtain ⟨_, _, rfl, -⟩ := h1
 obtain ⟨_, _, rfl, -⟩ := h2
 have H0 : Hid (∀ o1 o2 o3, Below w.heap.size w (((w.alloc o1).alloc o2).alloc o3)) := fun _ _ _ => (((Below.refl _ _).alloc (Nat.le_refl _) _).alloc (by simp) _).alloc (by simp; omega) _
 go_enter Tryz.func7, Tryz.ntmps7
 go_wp2_with fail
 refine (toStringS_any _ _ _ _ hl (SliceK.below H1.out (H0.out _ _ _))).mono ?_
 rintro e w1 ⟨rfl, hb1, hs1, ho1⟩
 have B2 := Lib.hid ((Blk.new ((w.alloc _).alloc _) [.int .i64 t.states, .int .i64 t.initial, .slice none 0 0, .slice none 0 0] 29).below hb1)
 have B1 := Lib.hid (((Blk.new (w.alloc _) [.int .i64 0, .int .i64 0, .slice none 0 0, .slice none 0 0] 29).alloc _).below hb1)
 have B0 := Lib.hid ((((Blk.new w [.int .i64 t.states, .int .i64 t.initial, _, _] 25).alloc _).alloc _).below hb1)
 have hz := hb1.size
 simp only [World.size_alloc] at hz hs1 B1 B2 B0
 have HB1 := Lib.hid ((H0.out _ _ _).trans (hb1.mono (B' := w.heap.size) (by simp; omega)))
 have HO1 := Lib.hid ho1
 clear hb1 ho1
 have b3 := B0.out.cell 3 rfl
 have c2 := B2.out.cell 2 rfl
 have f2 := B2.out.frozen 2
 simp only [World.size_alloc] at HO1
 go_wp2_with fail
 have HB2 := Lib.hid (HB1.out.setCell (p := ⟨w.heap.size + 1 + 1, 2, none⟩) (by simp; omega) (.slice (some ⟨w.heap.size + 1 + 1 + 1, 0, none⟩) t.labels.length t.labels.length))
 refine (toEdgeS_any _ _ _ _ he (SliceK.below H2.out HB2.out)).mono ?_
 rintro e w2 ⟨rfl, hb2, hs2, ho2⟩
 have C2 := Lib.hid ((B2.out.set 2 (.slice (some ⟨w.heap.size + 1 + 1 + 1, 0, none⟩) t.labels.length t.labels.length)).below hb2)
 have C1 := Lib.hid ((B1.out.setOther ⟨w.heap.size + 1 + 1, 2, none⟩ (.slice (some ⟨w.heap.size + 1 + 1 + 1, 0, none⟩) t.labels.length t.labels.length) (by simp)).below hb2)
 have HB3 := Lib.hid (HB2.out.trans (hb2.mono (B' := w.heap.size) (by simp; omega)))
 have HO1' := Lib.hid (owns_below (owns_setOther HO1.out ⟨w.heap.size + 1 + 1, 2, none⟩ (.slice (some ⟨w.heap.size + 1 + 1 + 1, 0, none⟩) t.labels.length t.labels.length) (by simp [Value.ownBlock])) hb2)
 have HO2 := Lib.hid ho2
 simp only [World.size_setCell] at hs2 HO2
 clear hb2 ho2 c2 f2 B1 B2 HB1 HO1 b3 B0
 have d0 := C2.out.cell 0 rfl
 have d1 := C2.out.cell 1 rfl
 have d2 := C2.out.cell 2 rfl
 have d3 := C2.out.cell 3 rfl
 have f3 := C2.out.frozen 3
 have e0 := C1.out.cell 0 rfl
 have e1 := C1.out.cell 1 rfl
 have e2 := C1.out.cell 2 rfl
 have e3 := C1.out.cell 3 rfl
 have g0 := C1.out.frozen 0
 have g1 := C1.out.frozen 1
 have g2 := C1.out.frozen 2
 have g3 := C1.out.frozen 3
 simp only [World.size_setCell]
 go_wp2_with fail
 refine bodyPost_ret (v := .agg #[.int .i64 t.states, .int .i64 t.initial, .slice (some ⟨w.heap.size + 1 + 1 + 1, 0, none⟩) t.labels.length t.labels.length, .slice (some ⟨w1.heap.size, 0, none⟩) t.edges.length t.edges.length])
  (by simp [results, Tryz.results7, go_sem, e0, e1, e2, e3]) rfl ⟨w.heap.size + 1 + 1 + 1, w1.heap.size, rfl, ?_, by omega, by omega, by simp; omega, ?_, ?_⟩
 ·exact ((((HB3.out.setCell (by simp; omega) _).setCell (by simp) _).setCell (by simp) _).setCell (by simp) _).setCell (by simp) _
 ·obtain ⟨q1, ⟨q2, q3⟩ | ⟨q4, q5, q6, q7, q8, q9⟩⟩ := (owns_setOther (owns_setOther (owns_setOther (owns_setOther (owns_setOther HO1'.out ⟨w.heap.size + 1 + 1, 3, none⟩ (.slice (some ⟨w1.heap.size, 0, none⟩) t.edges.length t.edges.length) (by simp [Value.ownBlock]; try omega)) ⟨w.heap.size + 1, 0, none⟩ (.int .i64 t.states) (by simp [Value.ownBlock]; try omega)) ⟨w.heap.size + 1, 1, none⟩ (.int .i64 t.initial) (by simp [Value.ownBlock]; try omega)) ⟨w.heap.size + 1, 2, none⟩ (.slice (some ⟨w.heap.size + 1 + 1 + 1, 0, none⟩) t.labels.length t.labels.length) (by simp [Value.ownBlock]; try omega)) ⟨w.heap.size + 1, 3, none⟩ (.slice (some ⟨w1.heap.size, 0, none⟩) t.edges.length t.edges.length) (by simp [Value.ownBlock]; try omega))
  ·simp at q2
  ·exact ⟨q1, .inr ⟨q4, q5, q6, q7, by omega, q9⟩⟩
 ·exact owns_setOther (owns_setOther (owns_setOther (owns_setOther (owns_setOther HO2.out _ _ (by simp [Value.ownBlock]; try omega)) _ _ (by simp [Value.ownBlock]; try omega)) _ _ (by simp [Value.ownBlock]; try omega)) _ _ (by simp [Value.ownBlock]; try omega)) _ _ (by simp [Value.ownBlock]; try omega)

end Go.Proofs.YtbjbjbnbapeajaaGreatDoor

namespace Go.Proofs.YtbjbjbnbapeajaaGreatDoor
open Go Go.RowKit

def SomeText (w : World) (e : Ending) (w' : World) : Prop := ∃ s, e = .returned (.string s) ∧ Below w.heap.size w w'

/-- A text out of one digit's byte. -/
theorem digit_text (w : World) (n : Int) (_h0 : 0 ≤ n) :
  (convert 105 9 (.slice (some ⟨w.heap.size, 0, none⟩) 1 1)).run Tryz.prog (w.alloc (.cells #[.int .u8 (48 + n % 10)] 5)) = .ok (.string ⟨#[UInt8.ofNat (48 + n % 10).toNat]⟩) (w.alloc (.cells #[.int .u8 (48 + n % 10)] 5)) := by
 refine run_convert_bytes_back (P := Tryz.prog) _ 105 9 5 ⟨w.heap.size, 0, none⟩ 1 [UInt8.ofNat (48 + n % 10).toNat] Tryz.underlying105 Tryz.underlying5 Tryz.underlying9 ?_
 intro j hj
 obtain rfl : j = 0 := by simpa using hj
 simp [Addr.add]
 omega

set_option maxRecDepth 100000 in
set_option maxHeartbeats 400000 in
theorem markText_any (k : Int) (w : World) (h1 : 0 ≤ k) (h2 : k ≤ 1000000000) : Calls Tryz.prog 56 #[.int .i64 k] w (SomeText w) := by
 by_cases h0 : k ≤ 0
 ·go_enter Tryz.func56, Tryz.ntmps56
  go_wp2
  go_ret
  exact ⟨_, rfl, Below.refl _ _⟩
 ·go_enter Tryz.func56, Tryz.ntmps56
  go_wp2
  go_loopw [0, 3] (fun q s wr => ∃ (n : Int) (t : ByteArray), 0 ≤ n ∧ t.size + n ≤ 1000000000 ∧ q = .int .i64 n ∧ s = .string t ∧ Below w.heap.size w wr) (fun q _ _ => (intOf q).toNat)
  case atStart => exact ⟨_, _, by omega, by show ((0 : Nat) : Int) + k ≤ _; omega, rfl, rfl, Below.refl _ _⟩
  case round =>
   obtain ⟨n, t, hn, hn2, rfl, rfl, hbl⟩ := hrel
   by_cases hp : 0 < n
   ·have kc := digit_text wr n hn
    go_wp2
    go_roundw
    case rel =>
     have hz : (ByteArray.mk #[UInt8.ofNat (48 + n % 10).toNat] ++ t).size = 1 + t.size := by rw [ByteArray.size_append]; rfl
     exact ⟨_, _, by omega, by rw [hz]; omega, rfl, rfl, hbl.alloc hbl.size _⟩
    case measure => simp [intOf]; omega
   ·go_wp2
    go_ret
    exact ⟨_, rfl, hbl⟩



/-- What a function that marks a slice does: it returns the next mark, and turns no block but the slice's own. -/
def Marked (w : World) (v : Value) (r : Int) (C : World → Prop) (e : Ending) (w' : World) : Prop := e = .returned (.int .i64 r) ∧ w.grownBy w' v.ownBlock ∧ C w'
def MarkedIn (lo hi : Nat) (w : World) (r : Int) (e : Ending) (w' : World) : Prop := e = .returned (.int .i64 r) ∧ Turns lo hi w w'

end Go.Proofs.YtbjbjbnbapeajaaGreatDoor

namespace Go.Proofs.YtbjbjbnbapeajaaGreatDoor
open Go Go.RowKit

theorem szS_fit (ss : List ByteArray) (left : Int) (h0 : 0 ≤ left) (h : 0 ≤ szS ss left) : ∀ s ∈ ss, (s.size : Int) ≤ left := by
 induction ss generalizing left with
 | nil => intro s hs; cases hs
 | cons a r ih =>
  unfold szS at h
  split at h
  ·omega
  ·next hl =>
   intro s hs
   rcases List.mem_cons.1 hs with rfl | hs
   ·omega
   ·have := ih (left - a.size) (by omega) h s hs
    omega
theorem szL_fit {t : Lts} {left : Int} (_h0 : 0 ≤ left) (h : 0 ≤ szL t left) : (t.labels.length : Int) ≤ left ∧ (t.edges.length : Int) ≤ left ∧ (∀ s ∈ t.labels, (s.size : Int) ≤ left) ∧ szL t left ≤ left := by
 unfold szL at h ⊢
 split at h
 ·omega
 ·next h1 =>
  rw [if_neg h1]
  split at h
  ·omega
  ·next h2 =>
   rw [if_neg h2]
   have h3 : ¬ left - t.labels.length < 0 := by
    intro e
    rw [szSS_neg e] at h1
    omega
   rw [szSS_pos h3] at h1 h2 h ⊢
   have h4 := szS_lt t.labels (left - t.labels.length) (by omega)
   have h5 : ¬ szS t.labels (left - t.labels.length) - t.edges.length < 0 := by
    intro e
    rw [szN_neg e] at h2
    omega
   rw [szN_pos h5] at h ⊢
   refine ⟨by omega, by omega, fun s hs => ?_, by omega⟩
   have := szS_fit t.labels (left - t.labels.length) (by omega) (by omega) s hs
   omega

end Go.Proofs.YtbjbjbnbapeajaaGreatDoor

namespace Go.Proofs.YtbjbjbnbapeajaaGreatDoor
open Go Go.RowKit

theorem blk4 {w : World} {b : Nat} {c0 c1 c2 c3 : Value} {T : TypeId} (h : Blk w b [c0, c1, c2, c3] T) :
  w.cell? ⟨b, 0, none⟩ = some c0 ∧ w.cell? ⟨b, 1, none⟩ = some c1 ∧ w.cell? ⟨b, 2, none⟩ = some c2 ∧ w.cell? ⟨b, 3, none⟩ = some c3 :=
 ⟨h.cell 0 rfl, h.cell 1 rfl, h.cell 2 rfl, h.cell 3 rfl⟩
theorem boxNew (w : World) (a : Array Value) (T : TypeId) : Below w.heap.size w (w.alloc (.cells a T)) := (Below.refl _ _).alloc (Nat.le_refl _) _

/-- A copy of a system, with both slices in blocks of its own. -/
structure Copy (B : Nat) (t : Lts) (b1 b2 : Nat) (w : World) : Prop where
 h1 : B ≤ b1
 h2 : b1 < b2
 h3 : b2 < w.heap.size
 o1 : w.ownsRow B 9 1 (.slice (some ⟨b1, 0, none⟩) t.labels.length t.labels.length) t.labels.length (t.labels.map .string)
 o2 : w.ownsRow b2 73 3 (.slice (some ⟨b2, 0, none⟩) t.edges.length t.edges.length) t.edges.length (t.edges.flatMap encE)
theorem Copy.below {B : Nat} {t : Lts} {b1 b2 : Nat} {w w' : World} (h : Copy B t b1 b2 w) (hb : Below w.heap.size w w') : Copy B t b1 b2 w' :=
 ⟨h.h1, h.h2, Nat.lt_of_lt_of_le h.h3 hb.size, owns_below h.o1 hb, owns_below h.o2 hb⟩
theorem Copy.labels {B : Nat} {t : Lts} {b1 b2 : Nat} {w : World} (h : Copy B t b1 b2 w) : SliceK 1 encS 0 w (.slice (some ⟨b1, 0, none⟩) t.labels.length t.labels.length) t.labels :=
 SliceK.of_owns (e := 9) encS_len rfl (by rw [flat_encS]; exact own_lower h.o1 (Nat.zero_le _))
theorem Copy.edges {B : Nat} {t : Lts} {b1 b2 : Nat} {w : World} (h : Copy B t b1 b2 w) : SliceK 3 encE 0 w (.slice (some ⟨b2, 0, none⟩) t.edges.length t.edges.length) t.edges :=
 SliceK.of_owns (e := 73) encE_len rfl (own_lower h.o2 (Nat.zero_le _))
theorem Copy.at {B : Nat} {t : Lts} {b1 b2 : Nat} {w : World} (h : Copy B t b1 b2 w) : LtsAt 0 w (.agg #[.int .i64 t.states, .int .i64 t.initial, .slice (some ⟨b1, 0, none⟩) t.labels.length t.labels.length, .slice (some ⟨b2, 0, none⟩) t.edges.length t.edges.length]) t :=
 ⟨_, _, rfl, h.labels, h.edges⟩
theorem Copy.turns {B : Nat} {t : Lts} {b1 b2 lo hi : Nat} {w w' : World} (h : Copy B t b1 b2 w) (ht : Turns lo hi w w') (hB : hi ≤ B) : Copy B t b1 b2 w' :=
 ⟨h.h1, h.h2, Nat.lt_of_lt_of_le h.h3 ht.size, owns_turns h.o1 ht (fun b e => by have := (h.o1.lt b e).1; omega), owns_turns h.o2 ht (fun b e => by have := (h.o2.lt b e).1; have := h.h1; have := h.h2; omega)⟩
def CopyMade (t : Lts) (w : World) (e : Ending) (w' : World) : Prop := ∃ b1 b2, e = .returned (.agg #[.int .i64 t.states, .int .i64 t.initial, .slice (some ⟨b1, 0, none⟩) t.labels.length t.labels.length, .slice (some ⟨b2, 0, none⟩) t.edges.length t.edges.length]) ∧ Below w.heap.size w w' ∧ Copy w.heap.size t b1 b2 w'
theorem copy_any (lo : Nat) (t : Lts) (lv ev : Value) (w : World) (hl : t.labels.length ≤ 1048576) (he : t.edges.length ≤ 1048576) (h1 : SliceK 1 encS lo w lv t.labels) (h2 : SliceK 3 encE lo w ev t.edges) :
  Calls Tryz.prog 7 #[.agg #[.int .i64 t.states, .int .i64 t.initial, lv, ev]] w (CopyMade t w) :=
 (toLts_any (.agg #[.int .i64 t.states, .int .i64 t.initial, lv, ev]) lo t w hl he ⟨lv, ev, rfl, h1, h2⟩).mono fun _ _ ⟨b1, b2, he, hb, h1, h2, h3, h4, h5⟩ => ⟨b1, b2, he, hb, h1, h2, h3, h4, h5⟩

end Go.Proofs.YtbjbjbnbapeajaaGreatDoor

namespace Go.Proofs.YtbjbjbnbapeajaaGreatDoor
open Go Go.RowKit Go.Sort

theorem enters_cmpQ : ∀ args w, (callFunc 66 args).run Tryz.prog w = .ok (.enter 66 args) w := enters_of Tryz.func66 (by kernel_rfl) rfl
theorem grownBy_sortQ {α : Type} [Inhabited α] {enc : α → Value} {w : World} {g n : Nat} {os : Array Obj} (d : Array α) : w.grownBy (sortWorld enc w g 0 n d os) (some g) := by
 unfold sortWorld
 refine ⟨rfl, rfl, rfl, by simp, fun k hk hne => ?_⟩
 rw [heap_grow_old _ _ (by simpa using hk)]
 have : g ≠ k := fun e => hne (by rw [e])
 simp [putRow, mapBlock, Sort.ahead, Array.getElem?_modify, this]
theorem heap_sortQ {α : Type} [Inhabited α] {enc : α → Value} {w : World} {g n : Nat} {os : Array Obj} {cur : Array Value} {e : TypeId} {fr : Nat × Nat} (d : Array α) (hb : w.heap[g]? = some (.cells cur e fr)) :
  (sortWorld enc w g 0 n d os).heap[g]? = some (.cells (putCells enc 0 d cur) e fr) := by
 unfold sortWorld
 have hg : g < w.heap.size := (Array.getElem?_eq_some_iff.1 hb).1
 rw [heap_grow_old _ _ (by simpa using hg)]
 simp [putRow, mapBlock, Sort.ahead, Array.getElem?_modify, hb, onCells]
theorem take_putQ {α : Type} [Inhabited α] (enc : α → Value) (cur : Array Value) (d : Array α) (h : d.size ≤ cur.size) : (putCells enc 0 d cur).toList.take d.size = d.toList.map enc := by
 apply List.ext_getElem?
 intro j
 by_cases hj : j < d.size
 ·rw [List.getElem?_take_of_lt hj, Array.getElem?_toList, List.getElem?_map, Array.getElem?_toList]
  simp [putCells, hj, show j < cur.size by omega]
 ·rw [List.getElem?_take_eq_none (by omega), List.getElem?_eq_none (by simp; omega)]
/-- Rows taken in another order, each once. -/
theorem OwnIntss.turnQ {lo : Nat} {w w' : World} {v : Value} {vs : List Value} {ps : List (Int × Int)} {js : List Nat} (h : OwnIntss 68 2 lo w v vs (ps.map rowQ)) (hp : js.Perm (List.range ps.length)) (hg : w.grownBy w' v.ownBlock) (ho : w'.ownsRow lo 68 1 v vs.length (js.map (hdQ vs))) :
  OwnIntss 68 2 lo w' v (js.map (hdQ vs)) ((js.map (prAt ps)).map rowQ) := by
 obtain ⟨h1, h2, h3, h4, h5⟩ := h
 rw [List.length_map] at h1
 have hl : js.length = vs.length := by rw [hp.length_eq, List.length_range, h1]
 have hin : ∀ (i : Nat) (hi : i < js.length), js[i] < vs.length := fun i hi => by
  have := List.mem_range.1 (hp.mem_iff.1 (List.getElem_mem hi))
  omega
 have hnd : js.Nodup := hp.nodup_iff.2 List.nodup_range
 have hne : ∀ (i j : Nat) (hi : i < js.length) (hj : j < js.length), i ≠ j → js[i] ≠ js[j] := fun i j hi hj hij e => by
  have hpw := List.pairwise_iff_getElem.1 (List.nodup_iff_pairwise_ne.1 hnd)
  rcases Nat.lt_trichotomy i j with h | h | h
  ·exact hpw i j hi hj h e
  ·exact hij h
  ·exact hpw j i hj hi h e.symm
 refine ⟨by simp, by rw [List.length_map, hl]; exact ho, fun i hi hi' => ?_, fun i j hi hj hij => ?_, fun i hi => ?_⟩
 ·rw [List.length_map] at hi
  have hb := hin i hi
  simp only [List.getElem_map]
  rw [hdQ_lt hb, prAt_lt (by omega)]
  have := h3 js[i] hb (by rw [List.length_map]; omega)
  rw [List.getElem_map] at this
  exact this.kept hg (h5 js[i] hb)
 ·rw [List.length_map] at hi hj
  simp only [List.getElem_map]
  rw [hdQ_lt (hin i hi), hdQ_lt (hin j hj)]
  exact h4 _ _ (hin i hi) (hin j hj) (hne i j hi hj hij)
 ·rw [List.length_map] at hi
  simp only [List.getElem_map]
  rw [hdQ_lt (hin i hi)]
  exact h5 _ (hin i hi)

theorem SortQ_own (base : Nat) (v : Value) (vs : List Value) (ps : List (Int × Int)) (w : World) (ho : OwnIntss 68 2 base w v vs (ps.map rowQ)) (hz : ps.length ≤ 1048576) :
  Calls Tryz.prog 65 #[v, .func (.func 66) #[] #[]] w fun e w' => e = .returned (.tuple #[]) ∧ ∃ (vs' : List Value) (qs : List (Int × Int)), qs.Perm ps ∧ qs.Pairwise (fun p q => befQ q p = false) ∧ OwnIntss 68 2 base w' v vs' (qs.map rowQ) ∧ w.grownBy w' v.ownBlock := by
 have hlen : vs.length = ps.length := by rw [ho.1, List.length_map]
 rcases ho.2.1.2 with ⟨rfl, h0⟩ | ⟨g, cap, cur, rfl, hb, hg, hn, hm, hs, ht⟩
 ·have hx : ps = [] := List.eq_nil_of_length_eq_zero (by rw [← hlen]; exact h0)
  have hv : vs = [] := List.eq_nil_of_length_eq_zero h0
  subst hx hv
  refine Calls.mono (R := fun e w' => e = .returned (.tuple #[]) ∧ w' = w) (Tryz.slices_SortFunc_none_f65 (α := Nat) none 0 _ w) ?_
  rintro e w' ⟨rfl, rfl⟩
  exact ⟨rfl, [], [], .refl _, .nil, ho, grown_refl _ _⟩
 ·by_cases hN0 : vs.length = 0
  ·have hx : ps = [] := List.eq_nil_of_length_eq_zero (by omega)
   have hv : vs = [] := List.eq_nil_of_length_eq_zero hN0
   subst hx hv
   refine Calls.mono (R := fun e w' => e = .returned (.tuple #[]) ∧ w' = w) (Tryz.slices_SortFunc_none_f65 (α := Nat) (some ⟨g, 0, none⟩) cap _ w) ?_
   rintro e w' ⟨rfl, rfl⟩
   exact ⟨rfl, [], [], .refl _, .nil, ho, grown_refl _ _⟩
  rw [Nat.mul_one] at ht hs
  have hdn : (List.range vs.length).toArray.size = vs.length := by simp
  have hgl : g < w.heap.size := (Array.getElem?_eq_some_iff.1 hg).1
  have hmod : ∀ i, i % vs.length < vs.length := fun i => Nat.mod_lt _ (by omega)
  have hdm : ∀ i, hdQ vs i = vs[i % vs.length]'(hmod i) := fun i => by unfold hdQ; rw [List.getD_eq_getElem?_getD, List.getElem?_eq_getElem (hmod i)]; rfl
  have hpm : ∀ i, prAt ps i = ps[i % vs.length]'(by rw [← hlen]; exact hmod i) := fun i => by
   have e : i % ps.length = i % vs.length := by rw [hlen]
   have e2 : i % vs.length < ps.length := by rw [← hlen]; exact hmod i
   unfold prAt
   rw [e, List.getD_eq_getElem?_getD, List.getElem?_eq_getElem e2]
   rfl
  have hone : OneCell (hdQ vs) := by
   intro i
   rw [hdm i]
   obtain ⟨a, c, e, -, -⟩ := owns_slice (ho.2.2.1 (i % vs.length) (hmod i) (by rw [← ho.1]; exact hmod i))
   rw [e]
   rfl
  have hH : Holds (hdQ vs) w g 0 (List.range vs.length).toArray := by
   intro j hj
   have hj' : j < vs.length := by simpa using hj
   refine ⟨?_, by simp [World.frozen?, hg]⟩
   have h1 : (cur.toList.take vs.length)[j]? = vs[j]? := by rw [ht]
   rw [List.getElem?_take_of_lt hj'] at h1
   simp only [World.cell?, hg, Nat.zero_add]
   simp only [Option.isSome_none, Bool.false_eq_true, if_false]
   rw [← Array.getElem?_toList, h1]
   simp [hj', hdQ_lt]
  have hcmp : CmpLays1 Tryz.prog 66 #[] (hdQ vs) (fun i j => cmpQ (prAt ps i) (prAt ps j)) g 0 (List.range vs.length).toArray.size w := by
   intro m os dk hdk x y
   obtain ⟨W, hW⟩ : ∃ W, W = sortWorld (hdQ vs) w g 0 m dk os := ⟨_, rfl⟩
   have hgr : w.grownBy W (some g) := by rw [hW]; exact grownBy_sortQ dk
   have hsl : ∀ i, SliceK 1 encI base W (hdQ vs i) (rowQ (prAt ps i)) := fun i => by
    rw [hdm i, hpm i]
    have h3 := ho.2.2.1 (i % vs.length) (hmod i) (by rw [← ho.1]; exact hmod i)
    rw [List.getElem_map] at h3
    have h4 := h3.kept hgr (ho.2.2.2.2 (i % vs.length) (hmod i))
    exact SliceK.of_owns (e := 2) encI_len rfl (by rw [flat_encI]; exact h4)
   rw [← hW]
   refine (CompareQ_any base _ _ _ _ W (hsl x) (hsl y)).mono ?_
   rintro e w' ⟨h1, h2, h3⟩
   exact ⟨h1, grow_of_below h2 h3⟩
  have hc := Any.slices_SortFunc Tryz.laysSlF6_f65 (α := Nat) (hdQ vs) hone (fun i j => cmpQ (prAt ps i) (prAt ps j)) (swo_befQ ps) 66 #[] g 0 cap (List.range vs.length).toArray w enters_cmpQ hcmp hH hgl (by rw [hdn]; omega)
  rw [hdn] at hc
  refine Calls.mono hc ?_
  rintro e w' ⟨rfl, d', n, os, ⟨hsz, -, hperm⟩, hsort, rfl⟩
  rw [hdn] at hsz
  have e1 : d'.extract 0 vs.length = d' := by rw [← hsz]; exact Array.extract_size
  have e2 : (List.range vs.length).toArray.extract 0 vs.length = (List.range vs.length).toArray := by
   conv => lhs; rw [← hdn]
   simp
  rw [e1, e2] at hperm
  have hpj : d'.toList.Perm (List.range ps.length) := by rw [← hlen]; exact hperm
  have hgw : w.grownBy (sortWorld (hdQ vs) w g 0 n d' os) (some g) := grownBy_sortQ d'
  refine ⟨rfl, d'.toList.map (hdQ vs), d'.toList.map (prAt ps), ?_, ?_, ho.turnQ hpj hgw ⟨by simp [hsz], .inr ⟨g, cap, _, rfl, hb, heap_sortQ d' hg, hn, hm, by simp [putCells, hs], ?_⟩⟩, hgw⟩
  ·have h := hpj.map (prAt ps)
   rwa [map_prAt] at h
  ·rw [List.pairwise_map, List.pairwise_iff_getElem]
   intro i j hi hj hij
   have hi' : i < d'.size := by simpa using hi
   have hj' : j < d'.size := by simpa using hj
   have := hsort i j (Nat.zero_le _) hij (by omega)
   rw [getElem!_pos d' j hj', getElem!_pos d' i hi'] at this
   rw [← cmpQ_lt]
   simpa [ltOf] using this
  ·rw [Nat.mul_one, ← hsz]
   exact take_putQ _ _ _ (by rw [hsz, hs]; exact hn)

end Go.Proofs.YtbjbjbnbapeajaaGreatDoor

namespace Go.Proofs.YtbjbjbnbapeajaaGreatDoor
open Go Go.RowKit Go.ChangeMaps Go.MapKept
open Go.Maps (Keyed)

def entG (ks : List Value) : Array MapEntry := (ks.mapIdx fun i k => (⟨k, .bool true, i⟩ : MapEntry)).toArray
/-- The block of a map that holds the keys, each with true. -/
def SetMap (w : World) (b : Nat) (ks : List Value) : Prop := w.heap[b]? = some (.map (entG ks) ks.length)
theorem SetMap.made (w : World) : SetMap (w.alloc (.map #[] 0)) w.heap.size [] := (MapKept.heap_alloc w _).1
theorem SetMap.lt {w : World} {b : Nat} {ks : List Value} (h : SetMap w b ks) : b < w.heap.size := (Array.getElem?_eq_some_iff.1 h).1
theorem SetMap.kept {w w' : World} {b : Nat} {ks : List Value} {row : Option Nat} (h : SetMap w b ks) (hg : w.grownBy w' row) (hne : some b ≠ row) : SetMap w' b ks := (hg.block b h.lt hne).trans h
theorem SetMap.below {w w' : World} {b : Nat} {ks : List Value} (h : SetMap w b ks) (hb : Below w.heap.size w w') : SetMap w' b ks := (hb.block b h.lt).trans h
theorem entG_key {ks : List Value} {e : MapEntry} (h : e ∈ (entG ks).toList) : ∃ i, ∃ hi : i < ks.length, e = ⟨ks[i], .bool true, i⟩ := by
 unfold entG at h
 simp only [List.mem_mapIdx] at h
 obtain ⟨i, hi, rfl⟩ := h
 exact ⟨i, hi, rfl⟩
theorem entG_mem {ks : List Value} {e : MapEntry} (h : e ∈ (entG ks).toList) : e.key ∈ ks := by
 obtain ⟨i, hi, rfl⟩ := entG_key h
 exact List.getElem_mem hi
theorem entG_size (ks : List Value) : (entG ks).size = ks.length := by unfold entG; simp
theorem entG_push (ks : List Value) (key : Value) : entG (ks ++ [key]) = (entG ks).push ⟨key, .bool true, ks.length⟩ := by
 unfold entG
 rw [List.mapIdx_append]
 simp

section
variable {P : Program} {k t e : TypeId} {w : World} {b : Nat} {ks : List Value}

theorem SetMap.found (h : SetMap w b ks) (K : Keyed P k) (ht : P.underlying t = some (.map k e)) (hks : ∀ v ∈ ks, ∃ l, keyOf P k v = some l) {key : Value} (hk : key ∈ ks) :
  (Instr.lookup t (.map (some b)) key false).run P w = .ok (.bool true) w := by
 obtain ⟨kl, hkey⟩ := hks _ hk
 rcases K.find w hkey (entG ks).toList (fun x hx => hks _ (entG_mem hx)) with ⟨_, h2⟩ | ⟨j, e0, h1, h2, h3⟩
 ·exfalso
  obtain ⟨i, hi, rfl⟩ := List.mem_iff_getElem.1 hk
  refine h2 ⟨ks[i], .bool true, i⟩ ?_ rfl
  unfold entG
  simp only [List.mem_mapIdx]
  exact ⟨i, hi, rfl⟩
 ·obtain ⟨i, hi, rfl⟩ := entG_key (List.mem_of_getElem? h2)
  have hb : w.heap[b]? = some (.map (entG ks) ks.length) := h
  simp [Instr.lookup, run_underlying ht, MapKept.run_getObj_map hb, K.check w _ hkey, h1, Result.andThen]

theorem SetMap.missing (h : SetMap w b ks) (K : Keyed P k) (ht : P.underlying t = some (.map k e)) (hks : ∀ v ∈ ks, ∃ l, keyOf P k v = some l) (hz : (zeroValue e).run P w = .ok (.bool false) w) {key : Value} {kl : Lit} (hkey : keyOf P k key = some kl) (hn : key ∉ ks) :
  (Instr.lookup t (.map (some b)) key false).run P w = .ok (.bool false) w := by
 rcases K.find w hkey (entG ks).toList (fun x hx => hks _ (entG_mem hx)) with ⟨h1, _⟩ | ⟨j, e0, _, h2, h3⟩
 ·have hb : w.heap[b]? = some (.map (entG ks) ks.length) := h
  simp [Instr.lookup, run_underlying ht, MapKept.run_getObj_map hb, K.check w _ hkey, h1, hz, Result.andThen]
 ·exact absurd (h3 ▸ entG_mem (List.mem_of_getElem? h2)) hn

theorem SetMap.store (h : SetMap w b ks) (K : Keyed P k) (ht : P.underlying t = some (.map k e)) (hks : ∀ v ∈ ks, ∃ l, keyOf P k v = some l) {key : Value} {kl : Lit} (hkey : keyOf P k key = some kl) (hn : key ∉ ks) (hroom : ks.length < maxLen) :
  ∃ w', (Instr.mapUpdate t (.map (some b)) key (.bool true)).run P w = .ok () w' ∧ SetMap w' b (ks ++ [key]) ∧ w.grownBy w' (some b) := by
 have hb : w.heap[b]? = some (.map (entG ks) ks.length) := h
 rcases K.find w hkey (entG ks).toList (fun x hx => hks _ (entG_mem hx)) with ⟨h1, _⟩ | ⟨j, e0, _, h2, h3⟩
 ·refine ⟨setBlock w b (.map ((entG ks).push ⟨key, .bool true, ks.length⟩) (ks.length + 1)), ?_, ?_, ?_⟩
  ·have hr : ks.length < 9223372036854775807 := hroom
   simp [Instr.mapUpdate, run_underlying ht, MapKept.run_getObj_map hb, K.check w false hkey, h1, MapKept.run_setObj_map _ hb, Result.andThen, setBlock]
  ·unfold SetMap
   rw [entG_push, List.length_append, List.length_singleton]
   exact heap_setBlock_same hb _
  ·exact ⟨rfl, rfl, rfl, by simp [setBlock], fun i _ hi => heap_setBlock_other hb _ (fun e => hi (by rw [e]))⟩
 ·exact absurd (h3 ▸ entG_mem (List.mem_of_getElem? h2)) hn

theorem setB_same {r : Nat} {o : Obj} (h : r < w.heap.size) : (setBlock w r o).heap[r]? = some o := by simp [setBlock, h]
theorem setB_other {r i : Nat} {o : Obj} (h : i ≠ r) : (setBlock w r o).heap[i]? = w.heap[i]? := by
 show (w.heap.setIfInBounds r o)[i]? = _
 rw [Array.getElem?_setIfInBounds_ne (Ne.symm h)]
/-- An iterator over a set: the places handed out so far. -/
def IterG (w : World) (r b n : Nat) (seen : Array Nat) : Prop := w.heap[r]? = some (.mapIter (some b) n seen n)
theorem SetMap.range (h : SetMap w b ks) (ht : P.underlying t = some (.map k e)) :
  (Instr.range t (.map (some b))).run P w = .ok (.pointer (some ⟨w.heap.size, 0, none⟩)) (w.alloc (.mapIter (some b) ks.length #[] ks.length)) := run_range_map w t k e b (entG ks) ks.length ht h
theorem IterG.start (w : World) (b n : Nat) : IterG (w.alloc (.mapIter (some b) n #[] n)) w.heap.size b n #[] := heap_alloc_new w _
theorem IterG.lt {r n : Nat} {seen : Array Nat} (h : IterG w r b n seen) : r < w.heap.size := (Array.getElem?_eq_some_iff.1 h).1
theorem IterG.below {w' : World} {r n : Nat} {seen : Array Nat} (h : IterG w r b n seen) (hb : Below w.heap.size w w') : IterG w' r b n seen := (hb.block r h.lt).trans h
theorem IterG.kept {w' : World} {r n : Nat} {seen : Array Nat} {row : Option Nat} (h : IterG w r b n seen) (hg : w.grownBy w' row) (hne : some r ≠ row) : IterG w' r b n seen := (hg.block r h.lt hne).trans h
theorem leftG {ks : List Value} {seen : Array Nat} {x : MapEntry} (h : x ∈ (leftOf (entG ks) seen).toList) : ∃ i, ∃ hi : i < ks.length, x = ⟨ks[i], .bool true, i⟩ ∧ i ∉ seen := by
 unfold leftOf at h
 simp only [Array.toList_filter, List.mem_filter] at h
 obtain ⟨h1, h2⟩ := h
 obtain ⟨i, hi, rfl⟩ := entG_key h1
 exact ⟨i, hi, rfl, by simpa using h2⟩
theorem left_none {ks : List Value} {seen : Array Nat} (h : (leftOf (entG ks) seen).size = 0) : ∀ i, i < ks.length → i ∈ seen := by
 intro i hi
 apply Classical.byContradiction
 intro hn
 have he : leftOf (entG ks) seen = #[] := Array.eq_empty_of_size_eq_zero h
 have hm : (⟨ks[i], .bool true, i⟩ : MapEntry) ∈ leftOf (entG ks) seen := by
  unfold leftOf
  rw [Array.mem_filter]
  refine ⟨?_, by simpa using hn⟩
  unfold entG
  simp only [List.mem_toArray, List.mem_mapIdx]
  exact ⟨i, hi, rfl⟩
 rw [he] at hm
 simp at hm
/-- The next key: none is left, or one that was not handed out. -/
theorem SetMap.next (h : SetMap w b ks) {r : Nat} {seen : Array Nat} (hi : IterG w r b ks.length seen) (ty : TypeId) :
  ((∀ i, i < ks.length → i ∈ seen) ∧ (Instr.next (.pointer (some ⟨r, 0, none⟩)) false ty).run P w = .ok (.tuple #[.bool false]) w) ∨
  ∃ i, ∃ hi : i < ks.length, i ∉ seen ∧ ∃ w' : World, (Instr.next (.pointer (some ⟨r, 0, none⟩)) false ty).run P w = .ok (.tuple #[.bool true, ks[i], .bool true]) w' ∧ IterG w' r b ks.length (seen.push i) ∧ w.grownBy w' (some r) := by
 have hold : ∀ x ∈ (entG ks).toList, x.born < ks.length := fun x hx => by
  obtain ⟨i, hi, rfl⟩ := entG_key hx
  exact hi
 rcases run_next_at (P := P) w ty r b ks.length ks.length seen (entG ks) ks.length hi h hold (Nat.le_refl _) with ⟨h1, h2⟩ | ⟨x, hx, w1, hw, h2⟩
 ·exact .inl ⟨left_none h1, h2⟩
 ·obtain ⟨i, hi', rfl, hn⟩ := leftG hx
  have hr1 : w1.heap[r]? = some (.mapIter (some b) ks.length seen ks.length) := by rcases hw with rfl | rfl <;> exact hi
  refine .inr ⟨i, hi', hn, _, h2, setB_same (Array.getElem?_eq_some_iff.1 hr1).1, ?_⟩
  rcases hw with rfl | rfl <;> exact ⟨rfl, rfl, rfl, (by show _ ≤ (Array.setIfInBounds _ _ _).size; rw [Array.size_setIfInBounds]; exact Nat.le_refl _), fun j _ hj => setB_other (fun e => hj (by rw [e]))⟩

end
end Go.Proofs.YtbjbjbnbapeajaaGreatDoor
