/-
  What stands while orders are listed, orders are checked, pairs are joined. Plain.
  The library's slices.Equal at edges.
  The reference's l02Norm: numbers by first sight.
  The program's normal: numbers by first sight.
  The program's normalKeys: the blocks of equal keys.
-/
import Derived.Test.YtifoinannefcpaaGreatDoorA13
import Derived.Test.YtifoinannefcpaaGreatDoorA7
import Derived.Test.YtifoinannefcpaaGreatDoorA9
import Derived.Test.YtifoinannefcpaaGreatDoorA3
import Derived.Test.YtifoinannefcpaaGreatDoorA5
import Derived.Maps.AppendAt
import Derived.Test.YtifoinannefcpaaGreatDoorA6
import Derived.Test.YtifoinannefcpaaGreatDoorA1
import Derived.Test.YtifoinannefcpaaGreatDoorA4
import Derived.Deep.AppendLies
namespace Go.Proofs.YtifoinannefcpaaGreatDoor
open Go Go.RowKit


theorem getD_eq2 {L : List (List Int)} {m : Nat} (h : m < L.length) : L.getD m [] = L[m] := by rw [List.getD_eq_getElem?_getD, List.getElem?_eq_getElem h]; rfl
theorem upI_memA {n : Nat} {x : Int} : x ∈ upI n ↔ 0 ≤ x ∧ x < (n : Int) := by
 unfold upI
 rw [List.mem_map]
 constructor
 ·rintro ⟨j, hj, rfl⟩
  rw [List.mem_range] at hj
  omega
 ·intro h
  exact ⟨x.toNat, List.mem_range.2 (by omega), by omega⟩
theorem ord_mem {n : Nat} {o : List Int} (h : OrdO n o) {x : Int} : x ∈ o ↔ 0 ≤ x ∧ x < (n : Int) := by
 refine ⟨h.low x, fun hx => ?_⟩
 by_cases hm : x ∈ o
 ·exact hm
 ·exfalso
  have h1 := nodup_subD (a := x :: o) (b := upI n) (List.nodup_cons.2 ⟨hm, h.nodup⟩) fun y hy => by
   refine upI_memA.2 ?_
   rcases List.mem_cons.1 hy with rfl | hy
   ·exact hx
   ·exact h.low y hy
  rw [List.length_cons, h.len, upI_len] at h1
  omega
theorem upI_isSet (n : Nat) : IsSet (fun x => 0 ≤ x ∧ x < (n : Int)) (upI n) := by
 refine ⟨fun x => upI_memA, ?_⟩
 unfold upI
 rw [List.pairwise_map]
 exact List.pairwise_lt_range.imp fun {a b} h => by omega
/-- An order, sorted, is the numbers. -/
theorem ord_sorted {n : Nat} {o : List Int} (h : OrdO n o) : Lib.compact (o.mergeSort fun x y => decide (x ≤ y)) = upI n :=
 IsSet.unique ((sort_compact_is o).congr fun _ => ord_mem h) (upI_isSet n)

/-- An order and one thing more, of the first i. -/
def extO (o : List Int) (i : Nat) : List (List Int) := ((upI i).filter fun j => !o.contains j).map fun j => o ++ [j]
theorem extO_succ (o : List Int) (i : Nat) : extO o (i + 1) = extO o i ++ if o.contains (i : Int) then [] else [o ++ [(i : Int)]] := by
 unfold extO
 rw [upI_succ, List.filter_append, List.map_append]
 cases h : o.contains (i : Int)
 ·rw [List.filter_cons, h]; rfl
 ·rw [List.filter_cons, h]; rfl
theorem extO_len (o : List Int) (i : Nat) : (extO o i).length ≤ i := by
 unfold extO
 rw [List.length_map]
 exact Nat.le_trans (List.length_filter_le _ _) (by rw [upI_len]; exact Nat.le_refl _)
theorem ordsL_next (n k : Nat) : ordsL n (k + 1) = (ordsL n k).flatMap fun o => extO o n := rfl
/-- The next orders, up to the m-th order and the i-th thing. -/
def nextO (L : List (List Int)) (n m i : Nat) : List (List Int) := ((L.take m).flatMap fun o => extO o n) ++ extO (L.getD m []) i
theorem nextO_zero (L : List (List Int)) (n : Nat) : nextO L n 0 0 = [] := by
 unfold nextO extO upI
 simp
theorem nextO_zero' (L : List (List Int)) (n m : Nat) : nextO L n m 0 = (L.take m).flatMap fun o => extO o n := by
 unfold nextO
 have : extO (L.getD m []) 0 = [] := rfl
 rw [this, List.append_nil]
theorem nextO_end (L : List (List Int)) (n m : Nat) (h : m < L.length) : nextO L n m n = nextO L n (m + 1) 0 := by
 rw [nextO_zero', List.take_succ_eq_append_getElem h, List.flatMap_append]
 unfold nextO
 rw [getD_eq2 h]
 simp
theorem nextO_all (n k : Nat) : nextO (ordsL n k) n (ordsL n k).length 0 = ordsL n (k + 1) := by
 rw [nextO_zero', List.take_length, ordsL_next]
theorem nextO_step (L : List (List Int)) (n m i : Nat) : nextO L n m (i + 1) = nextO L n m i ++ if (L.getD m []).contains (i : Int) then [] else [L.getD m [] ++ [(i : Int)]] := by
 unfold nextO
 rw [extO_succ, List.append_assoc]
theorem flat_ext_len (L : List (List Int)) (n : Nat) : (L.flatMap fun o => extO o n).length ≤ L.length * n := by
 induction L with
 | nil => simp
 | cons o L ih =>
  rw [List.flatMap_cons, List.length_append, List.length_cons, Nat.succ_mul]
  have := extO_len o n
  omega
theorem nextO_len (L : List (List Int)) (n m i : Nat) (hm : m ≤ L.length) : (nextO L n m i).length ≤ L.length * n + i := by
 unfold nextO
 rw [List.length_append]
 have h1 := flat_ext_len (L.take m) n
 have h2 := extO_len (L.getD m []) i
 rw [List.length_take, Nat.min_eq_left hm] at h1
 have h3 := Nat.mul_le_mul_right n hm
 omega
theorem ordsL_len (n : Nat) (hn : n ≤ 6) : ∀ k, (ordsL n k).length ≤ 6 ^ k
 | 0 => Nat.le_refl _
 | k + 1 => by
  rw [ordsL_next]
  have h1 := flat_ext_len (ordsL n k) n
  have h2 := ordsL_len n hn k
  have h3 := Nat.mul_le_mul h2 hn
  rw [Nat.pow_succ]
  omega
theorem ordsL_few {n k : Nat} (hn : n ≤ 6) (hk : k ≤ 6) : (ordsL n k).length ≤ 46656 :=
 Nat.le_trans (ordsL_len n hn k) (Nat.le_trans (Nat.pow_le_pow_right (by decide) hk) (by decide))

/-- The leaders, the first i of them turned. -/
def joinTo (ld : List Int) (p : Int × Int) (i : Nat) : List Int := (joinO ld p).take i ++ ld.drop i
theorem joinTo_zero (ld : List Int) (p : Int × Int) : joinTo ld p 0 = ld := by simp [joinTo]
theorem joinTo_all (ld : List Int) (p : Int × Int) : joinTo ld p ld.length = joinO ld p := by
 unfold joinTo
 rw [List.drop_length, List.append_nil, List.take_of_length_le (by rw [joinO_len]; exact Nat.le_refl _)]
theorem joinTo_len (ld : List Int) (p : Int × Int) (i : Nat) (hi : i ≤ ld.length) : (joinTo ld p i).length = ld.length := by
 unfold joinTo
 rw [List.length_append, List.length_take, List.length_drop, joinO_len]
 omega
theorem joinTo_at {ld : List Int} {p : Int × Int} {i : Nat} (hi : i < ld.length) : (joinTo ld p i)[i]? = some ld[i] := by
 unfold joinTo
 rw [List.getElem?_append_right (by rw [List.length_take, joinO_len]; omega), List.length_take, joinO_len, Nat.min_eq_left (by omega), Nat.sub_self, List.getElem?_drop, Nat.add_zero, List.getElem?_eq_getElem hi]
theorem joinTo_set {ld : List Int} {p : Int × Int} {i : Nat} (hi : i < ld.length) : joinTo ld p (i + 1) = (joinTo ld p i).set i (if ld[i] = ld.getD p.1.toNat 0 then ld.getD p.2.toNat 0 else ld[i]) := by
 have h1 : i < (joinO ld p).length := by rw [joinO_len]; exact hi
 have hg : (joinO ld p)[i] = if ld[i] = ld.getD p.1.toNat 0 then ld.getD p.2.toNat 0 else ld[i] := by simp only [joinO, List.getElem_map]
 unfold joinTo
 rw [List.take_succ_eq_append_getElem h1, List.set_append_right _ _ (by rw [List.length_take]; omega), List.length_take, Nat.min_eq_left (by omega), Nat.sub_self, List.drop_eq_getElem_cons hi, List.set_cons_zero, List.append_assoc, hg]
 rfl
theorem joinTo_hit {ld : List Int} {p : Int × Int} {i : Nat} (hi : i < ld.length) (h : ld[i] = ld.getD p.1.toNat 0) : joinTo ld p (i + 1) = (joinTo ld p i).set i (ld.getD p.2.toNat 0) := by
 rw [joinTo_set hi, if_pos h]
theorem joinTo_pass {ld : List Int} {p : Int × Int} {i : Nat} (hi : i < ld.length) (h : ld[i] ≠ ld.getD p.1.toNat 0) : joinTo ld p (i + 1) = joinTo ld p i := by
 rw [joinTo_set hi, if_neg h]
 apply List.ext_getElem?
 intro j
 by_cases e : i = j
 ·subst e
  rw [List.getElem?_set_self (by rw [joinTo_len _ _ _ (by omega)]; exact hi), joinTo_at hi]
 ·rw [List.getElem?_set_ne e]

/-- The pairs, up to the m-th order and the k-th thing. -/
def prsTo (os : List (List Int)) (m k : Nat) : List (Int × Int) := pairsO (os.take m) ++ (List.range k).map fun (j : Nat) => ((j : Int), (os.getD m []).getD j 0)
theorem prsTo_zero (os : List (List Int)) : prsTo os 0 0 = [] := by simp [prsTo, pairsO]
theorem prsTo_zero' (os : List (List Int)) (m : Nat) : prsTo os m 0 = pairsO (os.take m) := by simp [prsTo]
theorem prsTo_step (os : List (List Int)) (m k : Nat) : prsTo os m (k + 1) = prsTo os m k ++ [((k : Int), (os.getD m []).getD k 0)] := by
 unfold prsTo
 rw [List.range_succ, List.map_append, List.append_assoc]
 rfl
theorem prsTo_end (os : List (List Int)) (m : Nat) (h : m < os.length) : prsTo os m os[m].length = prsTo os (m + 1) 0 := by
 rw [prsTo_zero', List.take_succ_eq_append_getElem h]
 unfold prsTo pairsO
 rw [List.flatMap_append, getD_eq2 h]
 simp
theorem prsTo_all (os : List (List Int)) : prsTo os os.length 0 = pairsO os := by rw [prsTo_zero', List.take_length]
theorem pairsO_len (os : List (List Int)) (h : ∀ o ∈ os, o.length ≤ 6) : (pairsO os).length ≤ os.length * 6 := by
 induction os with
 | nil => simp [pairsO]
 | cons o os ih =>
  have h1 := ih fun o ho => h o (by simp [ho])
  have h2 := h o (by simp)
  unfold pairsO at h1 ⊢
  rw [List.flatMap_cons, List.length_append, List.length_map, List.length_range, List.length_cons, Nat.succ_mul]
  omega
theorem prsTo_len (os : List (List Int)) (h : ∀ o ∈ os, o.length ≤ 6) (m k : Nat) (hm : m ≤ os.length) : (prsTo os m k).length ≤ os.length * 6 + k := by
 unfold prsTo
 rw [List.length_append, List.length_map, List.length_range]
 have h1 := pairsO_len (os.take m) fun o ho => h o (List.mem_of_mem_take ho)
 rw [List.length_take, Nat.min_eq_left hm] at h1
 have h3 := Nat.mul_le_mul_right 6 hm
 omega
/-- The pairs of orders are of things. -/
theorem pairsO_low {n : Nat} {os : List (List Int)} (h : ∀ o ∈ os, OrdO n o) : ∀ p ∈ pairsO os, (0 ≤ p.1 ∧ p.1 < (n : Int)) ∧ (0 ≤ p.2 ∧ p.2 < (n : Int)) := by
 intro p hp
 obtain ⟨o, ho, hm⟩ := List.mem_flatMap.1 hp
 obtain ⟨k, hk, rfl⟩ := List.mem_map.1 hm
 have ha := h o ho
 rw [List.mem_range, ha.len] at hk
 exact ⟨⟨by omega, by omega⟩, ha.at hk⟩
/-- Leaders are things. -/
def LowL (n : Nat) (ld : List Int) : Prop := ld.length = n ∧ ∀ x ∈ ld, 0 ≤ x ∧ x < (n : Int)
theorem LowL.at {n : Nat} {ld : List Int} (h : LowL n ld) {i : Int} (hi : 0 ≤ i ∧ i < (n : Int)) : 0 ≤ ld.getD i.toNat 0 ∧ ld.getD i.toNat 0 < (n : Int) := by
 rw [getD_eq (by rw [h.1]; omega)]
 exact h.2 _ (List.getElem_mem _)
theorem leadO_low {n : Nat} (ps : List (Int × Int)) (h : ∀ p ∈ ps, (0 ≤ p.1 ∧ p.1 < (n : Int)) ∧ (0 ≤ p.2 ∧ p.2 < (n : Int))) : LowL n (leadO n ps) := by
 refine ⟨leadO_len n ps, fun x hx => ?_⟩
 have hl := lead_ok (n := n) (q := fun _ => 0) ps fun p hp => ⟨(h p hp).1, (h p hp).2, rfl⟩
 obtain ⟨i, hi, rfl⟩ := List.mem_iff_getElem.1 hx
 rw [leadO_len] at hi
 have := hl.low i hi
 rw [getD_eq (by rw [leadO_len]; exact hi)] at this
 exact this
theorem leadO_take (n : Nat) (ps : List (Int × Int)) (m : Nat) (h : m < ps.length) : leadO n (ps.take (m + 1)) = joinO (leadO n (ps.take m)) ps[m] := by
 rw [List.take_succ_eq_append_getElem h, leadO_snoc]

end Go.Proofs.YtifoinannefcpaaGreatDoor

namespace Go.Proofs.YtifoinannefcpaaGreatDoor
open Go Go.RowKit


theorem eqEd (x y : Edge) (w : World) : (binOp .eql 62 (.agg #[.int .i64 x.src, .int .i64 x.lab, .int .i64 x.dst]) (.agg #[.int .i64 y.src, .int .i64 y.lab, .int .i64 y.dst])).run Tryz.prog w = .ok (.bool (decide (x = y))) w := by
 have u3 := Tryz.underlying2
 have hS : Tryz.prog.underlying 62 = some (.struct (Tryz.prog.fieldsOf 62)) := by kernel_rfl
 have hp : Tryz.prog.stoodInHeld 62 = false := by kernel_rfl
 rw [run_eql_struct, show (10000 : Nat) = 9999 + 1 from rfl, run_equalIn_agg w 9999 62 _ _ hS hp]
 simp only [Program.fieldsOf, Tryz.underlying62]
 go_simp
 cases x with | mk a b c => cases y with | mk a' b' c' =>
 by_cases h1 : a = a' <;> by_cases h2 : b = b' <;> by_cases h3 : c = c' <;> simp [h1, h2, h3]
theorem neEd (x y : Edge) (w : World) : (binOp .neq 62 (.agg #[.int .i64 x.src, .int .i64 x.lab, .int .i64 x.dst]) (.agg #[.int .i64 y.src, .int .i64 y.lab, .int .i64 y.dst])).run Tryz.prog w = .ok (.bool (!decide (x = y))) w := by
 have h := eqEd x y w
 rw [run_eql_struct] at h
 rw [run_neq_struct]
 cases hr : (Op.equalIn 10000 62 (.agg #[.int .i64 x.src, .int .i64 x.lab, .int .i64 x.dst]) (.agg #[.int .i64 y.src, .int .i64 y.lab, .int .i64 y.dst])).run Tryz.prog w with
 | ok b w' =>
  rw [hr] at h
  simp only [Result.andThen, Result.ok.injEq, Value.bool.injEq] at h ⊢
  exact ⟨by rw [h.1], h.2⟩
 | halt _ _ => rw [hr] at h; cases h
theorem guardEd (op : BinOp) (a b : Operand) (xs ys : Array Value) (w : World) : (eqGuard op 62 a b (.agg xs) (.agg ys)).run Tryz.prog w = .ok () w := run_eqGuard_agg w op 62 a b xs ys (by kernel_rfl)

set_option maxRecDepth 100000 in
set_option maxHeartbeats 4000000 in
theorem EqualEd_any (lo lo2 : Nat) (va vb : Value) (xs ys : List Edge) (w : World) (hx : xs.length ≤ 1000000) (hva : SliceK 3 encE lo w va xs) (hvb : SliceK 3 encE lo2 w vb ys) :
  Calls Tryz.prog 48 #[va, vb] w fun e w' => e = .returned (.bool (decide (xs = ys))) ∧ Below w.heap.size w w' := by
 obtain ⟨a, ca, rfl, hna, hca, ha⟩ := hva
 obtain ⟨b, cb, rfl, hnb, hcb, hb⟩ := hvb
 have HA := Lib.hid ha
 have HB := Lib.hid hb
 obtain ⟨N, hN⟩ : ∃ N, N = xs.length := ⟨_, rfl⟩
 obtain ⟨M, hM⟩ : ∃ M, M = ys.length := ⟨_, rfl⟩
 rw [← hN] at hna hx ⊢
 rw [← hM] at hnb ⊢
 have HN := Lib.hid hN
 have HM := Lib.hid hM
 clear ha hb hN hM
 by_cases hl : N = M
 ·subst hl
  go_enter Tryz.func48, Tryz.ntmps48
  go_wp2
  go_loopw [13] (fun i wr => ∃ k : Nat, k ≤ N ∧ i = .int .i64 k ∧ Below w.heap.size w wr ∧ xs.take k = ys.take k) (fun i _ => N - (intOf i).toNat)
  case atStart => exact ⟨0, Nat.zero_le _, rfl, Below.refl _ _, by simp⟩
  case round =>
   obtain ⟨k, hk, rfl, hbl, hf⟩ := hrel
   have HBL := Lib.hid hbl
   have HF := Lib.hid hf
   have hsz := hbl.size
   clear hbl hf
   by_cases hlt : k < N
   ·have hk1 : k < xs.length := by rw [← HN.out]; exact hlt
    have hk2 : k < ys.length := by rw [← HM.out]; exact hlt
    obtain ⟨b1, o1, rfl, -, h1, c0, c1, c2⟩ := (HA.out.below HBL.out).edge hk1
    obtain ⟨b2, o2, rfl, -, h2, d0, d1, d2⟩ := (HB.out.below HBL.out).edge hk2
    obtain ⟨x, hx2⟩ : ∃ x, x = xs[k] := ⟨_, rfl⟩
    obtain ⟨y, hy2⟩ : ∃ y, y = ys[k] := ⟨_, rfl⟩
    rw [← hx2] at c0 c1 c2
    rw [← hy2] at d0 d1 d2
    have HT1 : Hid (xs.take (k + 1) = xs.take k ++ [x]) := by unfold Hid; rw [List.take_succ_eq_append_getElem hk1, hx2]
    have HT2 : Hid (ys.take (k + 1) = ys.take k ++ [y]) := by unfold Hid; rw [List.take_succ_eq_append_getElem hk2, hy2]
    have HD : Hid (x ≠ y → xs ≠ ys) := fun h e => h (by
     rw [hx2, hy2]
     subst e
     rfl)
    replace c0 := later_cell h1 c0
    replace c1 := later_cell h1 c1
    replace c2 := later_cell h1 c2
    replace d0 := later_cell h2 d0
    replace d1 := later_cell h2 d1
    replace d2 := later_cell h2 d2
    have hE := fun w' => neEd x y w'
    have hG := fun (op : BinOp) (a b : Operand) (w : World) => guardEd op a b #[.int .i64 x.src, .int .i64 x.lab, .int .i64 x.dst] #[.int .i64 y.src, .int .i64 y.lab, .int .i64 y.dst] w
    clear hx2 hy2 hk1 hk2
    by_cases hxy : x = y
    ·have hd : (!decide (x = y)) = false := by rw [decide_eq_true hxy]; rfl
     rw [hd] at hE
     have HF2 : Hid (xs.take (k + 1) = ys.take (k + 1)) := by unfold Hid; rw [HT1.out, HT2.out, HF.out, hxy]
     clear hxy hd
     go_wp2
     refine wp_region_later (by kernel_rfl) (by kernel_rfl) ?_
     repeat (go_big_quiet_step ((fail)))
     refine wpQuiet_nil ?_
     intro _ hw9
     obtain ⟨nl, hw8⟩ := hw9
     subst hw8
     go_wp2
     go_roundw
     case rel => exact ⟨k + 1, by omega, by go_num, HBL.out.trans (nl.h.mono hsz), HF2.out⟩
     case measure => simp [intOf]; omega
    ·have hd : (!decide (x = y)) = true := by rw [decide_eq_false hxy]; rfl
     rw [hd] at hE
     have HR : Hid (decide (xs = ys) = false) := decide_eq_false (HD.out hxy)
     clear hxy hd
     go_wp2
     refine wp_region_later (by kernel_rfl) (by kernel_rfl) ?_
     repeat (go_big_quiet_step ((fail)))
     refine wpQuiet_nil ?_
     intro _ hw9
     obtain ⟨nl, hw8⟩ := hw9
     subst hw8
     go_wp2
     go_ret
     exact ⟨by rw [HR.out]; rfl, HBL.out.trans (nl.h.mono hsz)⟩
   ·have HR : Hid (decide (xs = ys) = true) := decide_eq_true (by
     have h := HF.out
     rw [List.take_of_length_le (by rw [← HN.out]; omega), List.take_of_length_le (by rw [← HM.out]; omega)] at h
     exact h)
    go_wp2
    go_ret
    exact ⟨by rw [HR.out]; rfl, HBL.out⟩
 ·have HR : Hid (decide (xs = ys) = false) := decide_eq_false (fun e => hl (by rw [HN.out, HM.out, e]))
  have hne : ((N : Int) != (M : Int)) = true := by
   rw [bne_iff_ne]
   omega
  go_enter Tryz.func48, Tryz.ntmps48
  go_wp2
  go_ret
  exact ⟨by rw [HR.out]; rfl, Below.refl _ _⟩

end Go.Proofs.YtifoinannefcpaaGreatDoor

namespace Go.Proofs.YtifoinannefcpaaGreatDoor
open Go Go.RowKit


theorem info_int64N : (Tryz.prog.info? 2).map (fun i => (i.zero, i.size, i.bytes)) = some (some (.int .i64 0), 1, 8) := by kernel_rfl
end Go.Proofs.YtifoinannefcpaaGreatDoor

namespace Go.Proofs.YtifoinannefcpaaGreatDoor
open Go Go.RowKit
open Go.Maps (Keyed)


def I64 (x : Int) : Prop := -9223372036854775808 ≤ x ∧ x ≤ 9223372036854775807
theorem keyedI : Keyed Tryz.prog 2 := Go.Maps.int_keyed Tryz.underlying2
theorem keyOfI {x : Int} (h : I64 x) : ∃ l, keyOf Tryz.prog 2 (.int .i64 x) = some l := ⟨.int .i64 x, by
 have h1 := h.1
 have h2 := h.2
 have hw : (Lit.int .i64 x).wf = true := by
  unfold Lit.wf
  rw [Bool.and_eq_true, decide_eq_true_iff, decide_eq_true_iff]
  exact ⟨h1, h2⟩
 simp [keyOf, mapKey, Tryz.underlying2, hw]⟩
theorem underMapI : Tryz.prog.underlying 80 = some (.map 2 2) := Tryz.underlying80
theorem zeroI64N (w : World) : (zeroValue 2).run Tryz.prog w = .ok (.int .i64 0) w := by kernel_rfl
theorem NumMap.len {P : Program} {k t e : TypeId} {q : IntKind} {w : World} {b : Nat} {ks : List Value} (h : NumMap q w b ks) (ht : P.underlying t = some (.map k e)) (ty : TypeId) : (Builtin.len_ #[t] ty #[.map (some b)]).run P w = .ok (.int .i64 ks.length) w := by
 have hb : w.heap[b]? = some (.map (ks.mapIdx fun i k => (⟨k, .int q i, i⟩ : MapEntry)).toArray ks.length) := h
 simp [Builtin.len_, run_underlying ht, MapKept.run_getObj_map hb, goInt, Result.andThen]
def keysI (D : List Int) : List Value := D.map (Value.int .i64)
theorem keysI_nodup {D : List Int} (h : D.Nodup) : (keysI D).Nodup := by
 unfold keysI
 rw [List.nodup_iff_pairwise_ne, List.pairwise_map]
 exact (List.nodup_iff_pairwise_ne.1 h).imp fun {a b} hne e => hne (by simpa using e)
theorem firsts_nodup (l : List Int) : (firsts l).Nodup := by
 have h : ∀ (m acc : List Int), acc.Nodup → (m.foldl addNew acc).Nodup := by
  intro m
  induction m with
  | nil => exact fun acc h => h
  | cons y m ih =>
   intro acc h
   rw [List.foldl_cons]
   refine ih _ ?_
   unfold addNew
   by_cases hy : y ∈ acc
   ·rw [if_pos hy]; exact h
   ·rw [if_neg hy, List.nodup_append]
    refine ⟨h, by simp, ?_⟩
    intro a ha b hb
    rw [List.mem_singleton] at hb
    subst hb
    exact fun e => hy (e ▸ ha)
 exact h l [] List.nodup_nil

set_option maxRecDepth 100000 in
set_option maxHeartbeats 4000000 in
theorem normal_any (lo : Nat) (v : Value) (xs : List Int) (w : World) (hz : xs.length ≤ 1000000) (h64 : ∀ x ∈ xs, I64 x) (hv : SliceK 1 encI lo w v xs) : Calls Tryz.prog 52 #[v] w (MadeNums (normL xs) w) := by
 obtain ⟨a, cap, rfl, hn, hcap, hrow⟩ := hv
 obtain ⟨Q, hQ⟩ : ∃ Q, Q = normL xs := ⟨_, rfl⟩
 obtain ⟨N, hN⟩ : ∃ N, N = xs.length := ⟨_, rfl⟩
 have hQN : Q.length = N := by rw [hQ, normL_len, hN]
 rw [← hQ]
 rw [← hN] at hz hn ⊢
 have HN := Lib.hid hN
 have HQ := Lib.hid hQ
 have HQN := Lib.hid hQN
 have HR := Lib.hid hrow
 have H64 := Lib.hid h64
 obtain ⟨i1, hi1, hz10, hz11, hz12⟩ := info_parts info_int64N
 obtain ⟨mb, hmb⟩ : ∃ mb, mb = w.heap.size := ⟨_, rfl⟩
 have hMM : NumMap .i64 (w.alloc (.map #[] 0)) mb [] := by rw [hmb]; exact NumMap.made .i64 w
 have hbM : Below w.heap.size w (w.alloc (.map #[] 0)) := (Below.refl _ _).alloc (Nat.le_refl _) _
 have HMM := Lib.hid hMM
 have HBM := Lib.hid hbM
 have HMB := Lib.hid hmb
 have hmm := @run_makeMap Tryz.prog
 have hsm : (w.alloc (.map #[] 0)).heap.size = mb + 1 := by rw [hmb]; simp
 clear hrow hN hQ hQN hMM hbM h64
 go_enter Tryz.func52, Tryz.ntmps52
 go_wp2_with (at_make; refine wpList_make_full _ rfl _ _ 32 rfl (mb + 1) 2 i1 _ 1 Tryz.underlying32 hi1 hz10 hz11 .i64 .i64 _ _ N rfl rfl rfl rfl ?_ ?_ ?_ ?_)
 ·rw [hz12]; omega
 ·simp [maxLen]; omega
 ·simp; omega
 intro w1 ho hg
 rw [toList_madeCells_one] at ho
 try rw [← hmb] at ho
 have HB1 : Hid (Below w.heap.size w w1) := HBM.out.grown hg (by simp) (fun _ h => by cases h)
 have HM1 : Hid (NumMap .i64 w1 mb (keysI [])) := HMM.out.kept hg (by simp)
 have HO : Hid (w1.ownsRow (mb + 1) 2 1 (.slice (some ⟨mb + 1, 0, none⟩) N N) N (List.replicate N (.int .i64 0))) := by
  unfold Hid; simpa using ho
 try rw [hsm]
 try rw [← hmb]
 obtain ⟨G, hG⟩ : ∃ G, G = mb + 1 := ⟨_, rfl⟩
 rw [← hG] at HO
 try rw [← hG]
 have HG := Lib.hid hG
 have hle : w.heap.size ≤ G := by omega
 clear ho hg hi1 hz10 hz11 hz12 HMM HBM hmm hsm hmb hG
 go_wp2
 go_loopw [15] (fun v15 wr => ∃ k : Nat, k ≤ N ∧ v15 = .int .i64 k ∧ Below w.heap.size w wr ∧ NumMap .i64 wr mb (keysI (firsts (xs.take k))) ∧ wr.ownsRow G 2 1 (.slice (some ⟨G, 0, none⟩) N N) N ((Q.take k).map (Value.int .i64) ++ List.replicate (Q.length - k) (.int .i64 0))) (fun v15 _ => N - (intOf v15).toNat)
 case atStart => exact ⟨0, Nat.zero_le _, rfl, HB1.out, HM1.out, by simpa [HQN.out] using HO.out⟩
 case round =>
  clear HO HB1 HM1
  obtain ⟨k, hk, rfl, hbl, hmap, ho⟩ := hrel
  obtain ⟨wC, rfl⟩ : ∃ wC : World, wC = wr := ⟨_, rfl⟩
  have HBL := Lib.hid hbl
  have HO := Lib.hid ho
  have HMP := Lib.hid hmap
  have hszC := hbl.size
  by_cases hlt : k < N
  ·have hltx : k < xs.length := by rw [← HN.out]; exact hlt
   have hltq : k < Q.length := by rw [HQN.out]; exact hlt
   obtain ⟨b, o, rfl, -, hb, c1⟩ := (HR.out.below hbl).one hltx
   simp only [encI, List.getElem?_cons_zero] at c1
   obtain ⟨x, hx⟩ : ∃ x, x = xs[k] := ⟨_, rfl⟩
   rw [← hx] at c1
   obtain ⟨D, hD⟩ : ∃ D, D = firsts (xs.take k) := ⟨_, rfl⟩
   rw [← hD] at HMP hmap
   have hDn : D.Nodup := by rw [hD]; exact firsts_nodup _
   have hDl : D.length ≤ 1000000 := by
    rw [hD]
    have h1 := firsts_len (xs.take k)
    rw [List.length_take] at h1
    omega
   have hks : ∀ v ∈ keysI D, ∃ l, keyOf Tryz.prog 2 v = some l := fun v hv => by
    obtain ⟨y, hy, rfl⟩ := List.mem_map.1 hv
    rw [hD] at hy
    exact keyOfI (H64.out y (List.mem_of_mem_take ((firsts_mem _ _).1 hy)))
   have hQk : Q[k] = (fstIx D x : Int) := by
    have h := normL_at hltx
    rw [← HQ.out, List.getElem?_eq_getElem hltq, ← hD, ← hx] at h
    exact Option.some.inj h
   have hgG := (ho.lt G rfl).2
   by_cases hm : x ∈ D
   ·have hj := fstIx_lt hm
    have hjk : fstIx D x < (keysI D).length := by unfold keysI; rw [List.length_map]; exact hj
    have hfd := hmap.found keyedI underMapI hks (keysI_nodup hDn) hjk
    have hkj : (keysI D)[fstIx D x] = .int .i64 x := by
     have h : (keysI D)[fstIx D x]? = some (.int .i64 x) := by unfold keysI; rw [List.getElem?_map, fstIx_get hm]; rfl
     rw [List.getElem?_eq_getElem hjk] at h
     exact Option.some.inj h
    rw [hkj] at hfd
    obtain ⟨j, hjj⟩ : ∃ j, j = fstIx D x := ⟨_, rfl⟩
    rw [← hjj] at hfd hQk
    have d2 := ho.cellAt k (by omega)
    rw [filled_get _ _ _ _ hltq] at d2
    have d3 := ho.frozenAt k
    have ho4 := (ho.stored k (.int .i64 (j : Int))).1
    have hset := filled_set Q (Value.int .i64) (.int .i64 0) k hltq
    rw [hQk] at hset
    rw [hset] at ho4
    have HO4 := Lib.hid ho4
    have hM4 : NumMap .i64 (wC.setCell ⟨G, k, none⟩ (.int .i64 (j : Int))) mb (keysI (firsts (xs.take (k + 1)))) := by
     have e : firsts (xs.take (k + 1)) = D := by
      rw [List.take_succ_eq_append_getElem hltx, firsts_snoc, ← hD, ← hx]
      unfold addNew
      rw [if_pos hm]
     rw [e]
     exact hmap.kept (grown_setCell wC ⟨G, k, none⟩ _) (by have := HG.out; simp; omega)
    have HM4 := Lib.hid hM4
    clear ho ho4 hset hmap hM4 hkj hjk hj hjj hm hQk hks hDn hDl hD hx hbl
    go_wp2
    go_roundw
    case rel => exact ⟨k + 1, by omega, by go_num, HBL.out.setCell hle _, HM4.out, by simpa using HO4.out⟩
    case measure => simp [intOf]; omega
   ·obtain ⟨kl, hkl⟩ := keyOfI (show I64 x from by rw [hx]; exact H64.out _ (List.getElem_mem hltx))
    have hkn : Value.int .i64 x ∉ keysI D := fun h => by
     obtain ⟨y, hy, e⟩ := List.mem_map.1 h
     rw [show y = x from by simpa using e] at hy
     exact hm hy
    have hmi := hmap.missing keyedI underMapI hks (zeroI64N wC) hkl hkn
    have hln := hmap.len underMapI 3
    obtain ⟨w2, hup, hm2, hg2⟩ := hmap.store keyedI underMapI hks hkl hkn (by unfold keysI; rw [List.length_map]; unfold maxLen; omega)
    have hkl2 : (keysI D).length = D.length := by unfold keysI; rw [List.length_map]
    rw [hkl2] at hln hup
    obtain ⟨M, hM⟩ : ∃ M, M = D.length := ⟨_, rfl⟩
    rw [← hM] at hln hup
    have hQM : Q[k] = (M : Int) := by rw [hQk, fstIx_not hm, hM]
    have hblk : wC.heap[mb]? = some (.map (((keysI D).mapIdx fun i k => (⟨k, .int .i64 i, i⟩ : MapEntry)).toArray) (keysI D).length) := hmap
    have ho2 := ho.kept hg2 (own_map_ne ho hblk)
    have d2 := ho2.cellAt k (by omega)
    rw [filled_get _ _ _ _ hltq] at d2
    have d3 := ho2.frozenAt k
    have ho4 := (ho2.stored k (.int .i64 (M : Int))).1
    have hset := filled_set Q (Value.int .i64) (.int .i64 0) k hltq
    rw [hQM] at hset
    rw [hset] at ho4
    have HO4 := Lib.hid ho4
    have hM4 : NumMap .i64 (w2.setCell ⟨G, k, none⟩ (.int .i64 (M : Int))) mb (keysI (firsts (xs.take (k + 1)))) := by
     have e : firsts (xs.take (k + 1)) = D ++ [x] := by
      rw [List.take_succ_eq_append_getElem hltx, firsts_snoc, ← hD, ← hx]
      unfold addNew
      rw [if_neg hm]
     have e2 : keysI (D ++ [x]) = keysI D ++ [.int .i64 x] := by unfold keysI; rw [List.map_append]; rfl
     rw [e, e2]
     exact hm2.kept (grown_setCell w2 ⟨G, k, none⟩ _) (by have := HG.out; simp; omega)
    have HM4 := Lib.hid hM4
    have HB2 := Lib.hid (HBL.out.grown hg2 hszC (fun b e => by cases e; rw [HMB.out]; exact Nat.le_refl _))
    clear ho ho2 ho4 hset hmap hM4 hm2 hg2 hblk hkl2 hm hQk hQM hks hDn hD hx hbl hkl hkn hM
    go_wp2
    go_roundw
    case rel => exact ⟨k + 1, by omega, by go_num, HB2.out.setCell hle _, HM4.out, by simpa using HO4.out⟩
    case measure => simp [intOf]; omega
  ·obtain rfl : k = N := by omega
   have HF : Hid (wC.ownsRow G 2 1 (.slice (some ⟨G, 0, none⟩) Q.length k) Q.length (Q.map (Value.int .i64))) := by
    have h := HO.out
    unfold Hid
    rw [← HQN.out] at h ⊢
    simpa using h
   clear ho hmap hbl
   go_wp2
   go_ret
   refine ⟨_, rfl, HBL.out, ?_⟩
   have h := HF.out
   rw [HQN.out] at h ⊢
   exact own_lower h hle

end Go.Proofs.YtifoinannefcpaaGreatDoor

namespace Go.Proofs.YtifoinannefcpaaGreatDoor
open Go Go.RowKit


/-- A function of one element that answers P at the element's place, and turns nothing that was there. -/
def AskK (fid : Nat) (caps : Array Value) (P : Nat → Bool) (vs : List Value) (B : Nat) (w : World) : Prop :=
 ∀ w', Below B w w' → ∀ i (h : i < vs.length), Calls Tryz.prog fid (#[vs[i]] ++ caps) w' fun e w'' => e = .returned (.bool (P i)) ∧ Below w'.heap.size w' w''
def fstP (P : Nat → Bool) (n : Nat) : Int := if (List.range n).findIdx P < n then ((List.range n).findIdx P : Nat) else -1
theorem fstP_hit {P : Nat → Bool} {n k : Nat} (hk : k < n) (hn : ∀ j, j < k → P j = false) (h : P k = true) : fstP P n = k := by
 have e : (List.range n).findIdx P = k := by
  rw [List.findIdx_eq (by simpa using hk)]
  refine ⟨by simpa using h, fun j hj => by simpa using hn j hj⟩
 unfold fstP
 rw [e, if_pos hk]
theorem fstP_none {P : Nat → Bool} {n : Nat} (hn : ∀ j, j < n → P j = false) : fstP P n = -1 := by
 unfold fstP
 rw [if_neg]
 intro h
 have h2 := List.findIdx_getElem (w := show (List.range n).findIdx P < (List.range n).length by simpa using h)
 rw [List.getElem_range, hn _ h] at h2
 cases h2

set_option maxRecDepth 100000 in
set_option maxHeartbeats 1000000 in
theorem IndexFuncK (lo : Nat) (v : Value) (vs : List Value) (fid : Nat) (caps : Array Value) (P : Nat → Bool) (w : World) (hv : SliceK 1 encV lo w v vs) (eg : ∀ args w, (callFunc fid args).run Tryz.prog w = .ok (.enter fid args) w) (hP : AskK fid caps P vs w.heap.size w) :
  Calls Tryz.prog 44 #[v, .func (.func fid) #[] caps] w fun e w' => e = .returned (.int .i64 (fstP P vs.length)) ∧ Below w.heap.size w w' := by
 obtain ⟨a, c, rfl, hcn, hcc, hrow⟩ := hv
 have HR := Lib.hid hrow
 have HP := Lib.hid hP
 clear hP hrow
 go_enter Tryz.func44, Tryz.ntmps44
 go_wp2_with fail
 go_loopw [8] (fun i wr => ∃ k : Nat, k ≤ vs.length ∧ i = .int .i64 k ∧ Below w.heap.size w wr ∧ ∀ j, j < k → P j = false) (fun i _ => vs.length - (intOf i).toNat)
 case atStart => exact ⟨0, Nat.zero_le _, rfl, Below.refl _ _, fun _ h => by omega⟩
 case round =>
  obtain ⟨k, hk, rfl, hbl, ha⟩ := hrel
  have HA := Lib.hid ha
  have HBL := Lib.hid hbl
  clear ha
  by_cases hlt : k < vs.length
  ·obtain ⟨b1, o1, rfl, -, hbs, c1⟩ := (HR.out.below hbl).one hlt
   simp only [encV, List.getElem?_cons_zero] at c1
   clear hbl
   have HC := Lib.hid (HP.out wr HBL.out k hlt)
   obtain ⟨x, hx⟩ : ∃ x, x = vs[k] := ⟨_, rfl⟩
   rw [← hx] at c1 HC
   obtain ⟨b, hb⟩ : ∃ b, b = P k := ⟨_, rfl⟩
   rw [← hb] at HC
   have HB := Lib.hid hb
   clear hb hx
   go_wp2_with fail
   refine Calls.mono HC.out ?_
   rintro e w1 ⟨rfl, hb1⟩
   have HB1 := Lib.hid (HBL.out.trans (hb1.mono HBL.out.size))
   clear hb1 c1
   cases b
   ·go_wp2_with fail
    go_roundw
    case rel => exact ⟨k + 1, by omega, by go_num, HB1.out, fun j hj => by
     by_cases e : j = k
     ·subst e; exact HB.out.symm
     ·exact HA.out j (by omega)⟩
    case measure => simp [intOf]; omega
   ·have HE : Hid (fstP P vs.length = k) := fstP_hit hlt HA.out HB.out.symm
    go_wp2_with fail
    go_ret
    exact ⟨ret_int HE.out.symm, HB1.out⟩
  ·clear hbl
   have HN : Hid (fstP P vs.length = -1) := fstP_none fun j hj => HA.out j (by omega)
   go_wp2_with fail
   go_ret
   exact ⟨ret_int HN.out.symm, HBL.out⟩

theorem rowI_at {lo : Nat} {w : World} {v : Value} {xs : List Int} (h : SliceK 1 encI lo w v xs) (hx : xs ≠ []) : ∃ b o c, v = .slice (some ⟨b, o, none⟩) xs.length c ∧ xs.length ≤ c ∧ c ≤ 9223372036854775807 ∧ ∀ j, j < xs.length → w.cell? ⟨b, o + j, none⟩ = some (.int .i64 (xs.getD j 0)) := by
 obtain ⟨a, c, rfl, hn, hc, hrow⟩ := h
 rcases hrow with h0 | ⟨b, o, rfl, -, -, hcell⟩
 ·exact absurd (List.length_eq_zero_iff.1 h0) hx
 ·refine ⟨b, o, c, rfl, hn, hc, fun j hj => ?_⟩
  have h1 := hcell j hj 0 (by decide)
  simp only [encI, List.getElem?_cons_zero] at h1
  rw [List.getD_eq_getElem?_getD, List.getElem?_eq_getElem hj]
  simpa using h1
theorem EqualI_any (lo lo' : Nat) (va vb : Value) (xs ys : List Int) (w : World) (hva : SliceK 1 encI lo w va xs) (hvb : SliceK 1 encI lo' w vb ys) (hx : xs ≠ []) (hy : ys ≠ []) :
  Calls Tryz.prog 49 #[va, vb] w fun e w' => e = .returned (.bool (xs == ys)) ∧ Below w.heap.size w w' := by
 obtain ⟨b1, o1, c1, rfl, n1, m1, h1⟩ := rowI_at hva hx
 obtain ⟨b2, o2, c2, rfl, n2, m2, h2⟩ := rowI_at hvb hy
 refine (Tryz.slices_Equal_int b1 o1 xs.length c1 b2 o2 ys.length c2 xs ys w (Nat.le_refl _) (Nat.le_refl _) (by omega) (by omega) h1 h2).mono ?_
 rintro e w' ⟨rfl, q, rfl⟩
 refine ⟨by rw [List.take_length, List.take_length], below_drewN (Below.refl _ _) q⟩

set_option maxRecDepth 100000 in
theorem nk1_any (lo lo' tb : Nat) (va vb : Value) (xs ys : List Int) (w : World) (hva : SliceK 1 encI lo w va xs) (hvb : SliceK 1 encI lo' w vb ys) (hx : xs ≠ []) (hy : ys ≠ []) (hb : Blk w tb [vb] 32) :
  Calls Tryz.prog 94 #[va, .pointer (some ⟨tb, 0, none⟩)] w fun e w' => e = .returned (.bool (xs == ys)) ∧ Below w.heap.size w w' := by
 have HE := Lib.hid (EqualI_any lo lo' va vb xs ys w hva hvb hx hy)
 have x0 := hb.cell 0 rfl
 obtain ⟨b, hbb⟩ : ∃ b, b = (xs == ys) := ⟨_, rfl⟩
 rw [← hbb] at HE ⊢
 clear hva hvb hb hbb
 go_enter Tryz.func94, Tryz.ntmps94
 go_wp2_with fail
 refine Calls.mono HE.out ?_
 rintro e w1 ⟨rfl, hb1⟩
 have HB1 := Lib.hid hb1
 clear hb1 x0 HE
 go_wp2
 go_ret
 exact ⟨rfl, HB1.out⟩

theorem SliceK.headK {lo n c : Nat} {a : Option Addr} {w : World} {xs : List Value} (h : SliceK 1 encV lo w (.slice a n c) xs) {m : Nat} (hm : m ≤ n) : SliceK 1 encV lo w (.slice a m c) (xs.take m) := by
 obtain ⟨b9, c9, h2, h3, h4, h5⟩ := h
 simp only [Value.slice.injEq] at h2
 obtain ⟨rfl, rfl, rfl⟩ := h2
 refine ⟨_, _, by rw [List.length_take]; congr 1; omega, by rw [List.length_take]; omega, by omega, ?_⟩
 rcases h5 with h5 | ⟨b, o, h6, h7, h8, h9⟩
 ·left; rw [List.length_take]; omega
 ·refine .inr ⟨b, o, h6, h7, h8, fun i hi j hj => ?_⟩
  rw [List.length_take] at hi
  rw [h9 i (by omega) j hj, List.getElem_take]

theorem info_int64K : (Tryz.prog.info? 2).map (fun i => (i.zero, i.size, i.bytes)) = some (some (.int .i64 0), 1, 8) := by kernel_rfl
theorem firstIx_of {ks : List (List Int)} {k : Nat} (hk : k < ks.length) : (firstIx ks)[k]? = some (if fstP (fun j => ks.getD j [] == ks[k]) k < 0 then (k : Int) else fstP (fun j => ks.getD j [] == ks[k]) k) := by
 rw [firstIx_at hk]
 have hg : ∀ j (h : j < ks.length), ks.getD j [] = ks[j] := fun j h => by rw [List.getD_eq_getElem?_getD, List.getElem?_eq_getElem h]; rfl
 have hle : fstIx ks ks[k] ≤ k := by
  rcases Nat.lt_or_ge k (fstIx ks ks[k]) with h | h
  ·exact absurd (List.getElem?_eq_getElem hk) (fstIx_first h)
  ·exact h
 congr 1
 rcases Nat.lt_or_ge (fstIx ks ks[k]) k with h | h
 ·have h1 : fstP (fun j => ks.getD j [] == ks[k]) k = (fstIx ks ks[k] : Nat) := by
   refine fstP_hit h (fun j hj => ?_) ?_
   ·rw [beq_eq_false_iff_ne, hg j (by omega)]
    intro e
    exact fstIx_first hj (by rw [List.getElem?_eq_getElem (show j < ks.length by omega), e])
   ·rw [beq_iff_eq, hg _ (by omega)]
    have h2 := fstIx_get (List.getElem_mem hk)
    rw [List.getElem?_eq_getElem (show fstIx ks ks[k] < ks.length by omega)] at h2
    exact Option.some.inj h2
  rw [h1, if_neg (by omega)]
 ·have e : fstIx ks ks[k] = k := by omega
  have h1 : fstP (fun j => ks.getD j [] == ks[k]) k = -1 := by
   refine fstP_none fun j hj => ?_
   rw [beq_eq_false_iff_ne, hg j (by omega)]
   intro e2
   exact fstIx_first (by omega : j < fstIx ks ks[k]) (by rw [List.getElem?_eq_getElem (show j < ks.length by omega), e2])
  rw [h1, if_pos (by decide), e]

set_option maxRecDepth 100000 in
set_option maxHeartbeats 1000000 in
theorem normalKeys_any (lo : Nat) (v : Value) (vs : List Value) (ks : List (List Int)) (w : World) (hv : OwnIntss 32 2 lo w v vs ks) (hne : ∀ r ∈ ks, r ≠ []) (hz : ks.length ≤ 1000) :
  Calls Tryz.prog 72 #[v] w (MadeNums (blocksL ks) w) := by
 have hvl := hv.1
 have HSV : Hid (SliceK 1 encV lo w v vs) := SliceK.of_owns (enc := encV) encV_len rfl (by rw [flat_encV]; exact hv.2.1)
 have HRW : Hid (∀ i (h : i < vs.length) (h' : i < ks.length), SliceK 1 encI lo w vs[i] ks[i]) := fun i h h' => SliceK.of_owns (enc := encI) encI_len rfl (by rw [flat_encI]; exact hv.2.2.1 i h h')
 have HNE := Lib.hid hne
 obtain ⟨a, c, rfl, hc, hcm⟩ := owns_slice hv.2.1
 have HROW : Hid (RowK 1 encV lo w a vs) := by
  obtain ⟨a9, c9, e9, -, -, h9⟩ := id HSV.out
  simp only [Value.slice.injEq] at e9
  rw [e9.1]
  exact h9
 obtain ⟨N, hN⟩ : ∃ N, N = vs.length := ⟨_, rfl⟩
 rw [← hN] at HSV hvl hc ⊢
 have HN := Lib.hid hN
 have HVL := Lib.hid hvl
 obtain ⟨Q, hQ⟩ : ∃ Q, Q = firstIx ks := ⟨_, rfl⟩
 have HQ := Lib.hid hQ
 have HQN : Hid (Q.length = N) := by unfold Hid; rw [hQ, firstIx_len, hvl]
 have hbQ : blocksL ks = normL Q := by rw [hQ]; rfl
 rw [hbQ]
 have hzN : N ≤ 1000 := by omega
 obtain ⟨i1, hi1, hz10, hz11, hz12⟩ := info_parts info_int64K
 have eg : ∀ args w, (callFunc 94 args).run Tryz.prog w = .ok (.enter 94 args) w := fun args w => by kernel_rfl
 have HEG := Lib.hid eg
 clear hv hne hN hvl hQ hbQ hz eg
 go_enter Tryz.func72, Tryz.ntmps72
 go_wp2
 go_loopw [3, 9] (fun v3 v9 wr => ∃ k : Nat, k ≤ N ∧ v9 = .int .i64 k ∧ Below w.heap.size w wr ∧ wr.ownsRow w.heap.size 2 1 v3 (Q.take k).length ((Q.take k).map (Value.int .i64))) (fun _ v9 _ => N - (intOf v9).toNat)
 case atStart => exact ⟨0, Nat.zero_le _, rfl, Below.refl _ _, World.ownsRow_nil _ _ _ _⟩
 case round =>
  obtain ⟨k, hk, rfl, hbl, ho⟩ := hrel
  obtain ⟨wC, rfl⟩ : ∃ wC : World, wC = wr := ⟨_, rfl⟩
  have HBL := Lib.hid hbl
  have hszC := hbl.size
  have hTk : (Q.take k).length = k := by rw [List.length_take, HQN.out]; omega
  rw [hTk] at ho
  obtain ⟨oa, oc, rfl, -, -⟩ := owns_slice ho
  have HO := Lib.hid ho
  clear ho hTk
  by_cases hlt : k < N
  ·have hlv : k < vs.length := by rw [← HN.out]; exact hlt
   have hlk : k < ks.length := by rw [← HVL.out]; exact hlt
   obtain ⟨b1, o1, rfl, -, hb1, c1⟩ := (HROW.out.below hbl).one hlv
   simp only [encV, List.getElem?_cons_zero] at c1
   have hkr := HRW.out k hlv hlk
   obtain ⟨ra, rc, hr9, -, -, -⟩ := id hkr
   obtain ⟨RL, hRL⟩ : ∃ RL, RL = ks[k].length := ⟨_, rfl⟩
   rw [← hRL] at hr9
   rw [hr9] at c1
   obtain ⟨tb, htb⟩ : ∃ tb, tb = wC.heap.size := ⟨_, rfl⟩
   obtain ⟨wK, hwK⟩ : ∃ wK, wK = wC.alloc (.cells #[.slice ra RL rc] 32) := ⟨_, rfl⟩
   have hbK : Below wC.heap.size wC wK := by rw [hwK]; exact (Below.refl _ _).alloc (Nat.le_refl _) _
   have hT : Blk wK tb [.slice ra RL rc] 32 := by rw [hwK, htb]; exact Blk.new wC _ _
   have hBK := HBL.out.trans (hbK.mono hszC)
   have HBK := Lib.hid hBK
   have HT := Lib.hid hT
   have HOK := Lib.hid (owns_below HO.out hbK)
   have HTK : Hid ((vs.take k).length = k) := by unfold Hid; rw [List.length_take]; omega
   have HIX := Lib.hid (IndexFuncK lo (.slice (some ⟨b1, o1, none⟩) k c) (vs.take k) 94 #[.pointer (some ⟨tb, 0, none⟩)] (fun j => ks.getD j [] == ks[k]) wK ((HSV.out.below hBK).headK (by omega)) HEG.out (fun w' hb i hi => by
    have hik : i < k := by rw [HTK.out] at hi; exact hi
    have hiv : i < vs.length := by omega
    have hil : i < ks.length := by omega
    rw [List.getElem_take]
    have hg : ks.getD i [] = ks[i] := by rw [List.getD_eq_getElem?_getD, List.getElem?_eq_getElem hil]; rfl
    show Calls Tryz.prog 94 (#[vs[i]] ++ #[.pointer (some ⟨tb, 0, none⟩)]) w' fun e w'' => e = .returned (.bool (ks.getD i [] == ks[k])) ∧ Below w'.heap.size w' w''
    rw [hg]
    exact nk1_any lo lo tb vs[i] (.slice ra RL rc) ks[i] ks[k] w' ((HRW.out i hiv hil).below (HBK.out.trans (hb.mono HBK.out.size))) (by rw [← hr9]; exact (HRW.out k hlv hlk).below (HBK.out.trans (hb.mono HBK.out.size))) (HNE.out _ (List.getElem_mem hil)) (HNE.out _ (List.getElem_mem hlk)) (HT.out.below hb)))
   rw [HTK.out] at HIX
   have hfi := firstIx_of hlk
   rw [← HQ.out] at hfi
   obtain ⟨f, hf⟩ : ∃ f, f = fstP (fun j => ks.getD j [] == ks[k]) k := ⟨_, rfl⟩
   rw [← hf] at HIX hfi
   obtain ⟨z, hz⟩ : ∃ z : Int, z = if f < 0 then (k : Int) else f := ⟨_, rfl⟩
   rw [← hz] at hfi
   have hltq : k < Q.length := by rw [HQN.out]; exact hlt
   have hQk : Q[k] = z := by
    rw [List.getElem?_eq_getElem hltq] at hfi
    exact Option.some.inj hfi
   have HNX : Hid ((Q.take (k + 1)).length = k + 1 ∧ (Q.take (k + 1)).map (Value.int .i64) = (Q.take k).map (Value.int .i64) ++ [.int .i64 z]) := by
    refine ⟨by rw [List.length_take, HQN.out]; omega, ?_⟩
    rw [List.take_succ_eq_append_getElem hltq, List.map_append, hQk]
    rfl
   have HZ := Lib.hid hz
   have HWK := Lib.hid hwK
   have HTB := Lib.hid htb
   have hsK : w.heap.size ≤ wK.heap.size := hBK.size
   clear hkr hr9 hRL hwK hbK hT hBK hfi hf hQk hz htb hbl
   go_wp2_with fail
   rw [← HWK.out]
   try rw [← HTB.out]
   refine Calls.mono HIX.out ?_
   rintro e w3 ⟨rfl, hb3⟩
   have HB3 := Lib.hid (HBK.out.trans (hb3.mono hsK))
   have HO3 := Lib.hid (owns_below HOK.out hb3)
   have hs3 := HB3.out.size
   clear hb3 HIX c1
   by_cases hf0 : f < 0
   ·have HZ2 : Hid (z = (k : Int)) := by unfold Hid; rw [HZ.out, if_pos hf0]
    go_wp2_with (at_builtin; refine wpList_append_own _ rfl _ _ 32 rfl w.heap.size 2 i1 (.int .i64 0) 1 8 Tryz.underlying32 hi1 hz10 hz11 hz12 rfl (by decide) _ k _ rfl (HO3.out.alloc _) ⟨w3.heap.size, 0, none⟩ 1 1 [.int .i64 k] rfl rfl ?c1 ?c2 ?c3 ?c4 ?c5 ?_)
    case c1 => exact World.news_of_block (cs := #[.int .i64 k]) (t := 2) (fr := (0, 0)) (heap_alloc_new _ _)
    case c2 => intro u hu; simp at hu; subst hu; rfl
    case c3 => simp [maxLen]; omega
    case c4 => omega
    case c5 => first | omega | (simp; omega)
    intro v7 w7 ho7 hg7 _
    have HB7 : Hid (Below w.heap.size w w7) := (HB3.out.alloc hs3 _).grown hg7 (by simp; omega) (fun b e => (HO3.out.lt b e).1)
    have HO7 : Hid (w7.ownsRow w.heap.size 2 1 v7 (Q.take (k + 1)).length ((Q.take (k + 1)).map (Value.int .i64))) := by unfold Hid; rw [HNX.out.1, HNX.out.2, HZ2.out, List.map_take]; exact ho7
    clear ho7 hg7
    go_wp2
    go_roundw
    case rel => exact ⟨k + 1, by omega, by go_num, HB7.out, HO7.out⟩
    case measure => simp [intOf]; omega
   ·have HZ2 : Hid (z = f) := by unfold Hid; rw [HZ.out, if_neg hf0]
    go_wp2_with (at_builtin; refine wpList_append_own _ rfl _ _ 32 rfl w.heap.size 2 i1 (.int .i64 0) 1 8 Tryz.underlying32 hi1 hz10 hz11 hz12 rfl (by decide) _ k _ rfl (HO3.out.alloc _) ⟨w3.heap.size, 0, none⟩ 1 1 [.int .i64 f] rfl rfl ?c1 ?c2 ?c3 ?c4 ?c5 ?_)
    case c1 => exact World.news_of_block (cs := #[.int .i64 f]) (t := 2) (fr := (0, 0)) (heap_alloc_new _ _)
    case c2 => intro u hu; simp at hu; subst hu; rfl
    case c3 => simp [maxLen]; omega
    case c4 => omega
    case c5 => first | omega | (simp; omega)
    intro v7 w7 ho7 hg7 _
    have HB7 : Hid (Below w.heap.size w w7) := (HB3.out.alloc hs3 _).grown hg7 (by simp; omega) (fun b e => (HO3.out.lt b e).1)
    have HO7 : Hid (w7.ownsRow w.heap.size 2 1 v7 (Q.take (k + 1)).length ((Q.take (k + 1)).map (Value.int .i64))) := by unfold Hid; rw [HNX.out.1, HNX.out.2, HZ2.out, List.map_take]; exact ho7
    clear ho7 hg7
    go_wp2
    go_roundw
    case rel => exact ⟨k + 1, by omega, by go_num, HB7.out, HO7.out⟩
    case measure => simp [intOf]; omega
  ·obtain rfl : k = N := by omega
   have hof : wC.ownsRow w.heap.size 2 1 (.slice oa k oc) Q.length (Q.map (Value.int .i64)) := by
    have h := HO.out
    rw [← HQN.out] at h ⊢
    simpa using h
   have HNM := Lib.hid (normal_any w.heap.size (.slice oa k oc) Q wC (by rw [HQN.out]; omega) (fun x hx => by
    obtain ⟨i, hi, rfl⟩ := List.mem_iff_getElem.1 hx
    have h := firstIx_at (l := ks) (i := i) (by have := HQN.out; have := HVL.out; omega)
    rw [← HQ.out, List.getElem?_eq_getElem hi] at h
    have h2 := fstIx_le ks (ks[i]'(by have := HQN.out; have := HVL.out; omega))
    rw [Option.some.inj h]
    have := HVL.out
    exact ⟨by omega, by omega⟩) (SliceK.of_owns (enc := encI) encI_len HQN.out.symm (by rw [flat_encI]; rw [HQN.out] at hof; exact hof)))
   clear hof hbl
   go_wp2_with fail
   refine Calls.mono HNM.out ?_
   rintro e w5 ⟨v5, rfl, hb5, ho5⟩
   have HB5 := Lib.hid (HBL.out.trans (hb5.mono hszC))
   have HO5 := Lib.hid (own_lower ho5 hszC)
   clear hb5 ho5 HNM
   go_wp2
   go_ret
   exact ⟨_, rfl, HB5.out, HO5.out⟩

end Go.Proofs.YtifoinannefcpaaGreatDoor
