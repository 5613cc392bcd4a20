/-
  A pile of rows of the call's own, no two in one block; a slice of such rows.
  Marks in edges and in systems of the call's own, and that they still stand.
  What a size that fits says of a system's parts.
  What the joining walks of the exact laws share: copies of systems, boxes, which blocks a mark can turn.
  The law's marks in a monitor, and that they still stand.
-/
import Derived.Test.YtmhpfmanagbggaaGreatDoorK1
import Derived.Test.YtmhpfmanagbggaaGreatDoorK23
import Derived.Test.YtmhpfmanagbggaaGreatDoorK16
namespace Go.Proofs.YtmhpfmanagbggaaGreatDoor
open Go Go.RowKit

theorem own_type_far {w : World} {base e size n b : Nat} {v : Value} {xs : List Value} (ho : w.ownsRow base e size v n xs) {a : Array Value} {t : TypeId} {fr : Nat × Nat} (hb : w.heap[b]? = some (.cells a t fr)) (he : e ≠ t) : v.ownBlock = none ∨ v.ownBlock ≠ some b := by
 rcases ho.2 with ⟨rfl, -⟩ | ⟨g, c, u, rfl, -, hg, -⟩
 ·exact .inl rfl
 ·refine .inr fun e2 => ?_
  simp only [Value.ownBlock, Option.some.injEq] at e2
  subst e2
  rw [hg] at hb
  simp only [Option.some.injEq, Obj.cells.injEq] at hb
  exact he hb.2.1
/-- Blocks of types other than these are as they were. -/
def Only (Ts : List TypeId) (w w' : World) : Prop := ∀ (b : Nat) (a : Array Value) (T : TypeId) (fr : Nat × Nat), w.heap[b]? = some (.cells a T fr) → T ∉ Ts → w'.heap[b]? = some (.cells a T fr)
theorem Only.refl (Ts : List TypeId) (w : World) : Only Ts w w := fun _ _ _ _ h _ => h
theorem Only.trans {Ts Us : List TypeId} {a b c : World} (h : Only Ts a b) (k : Only Us b c) : Only (Ts ++ Us) a c := fun x y T fr hx hT => by
 rw [List.mem_append] at hT
 exact k x y T fr (h x y T fr hx (fun e => hT (.inl e))) (fun e => hT (.inr e))
theorem Only.step {Ts : List TypeId} {a b c : World} (h : Only Ts a b) (k : Only Ts b c) : Only Ts a c := fun x y T fr hx hT => k x y T fr (h x y T fr hx hT) hT
theorem Only.below {w w' : World} (Ts : List TypeId) (hb : Below w.heap.size w w') : Only Ts w w' := fun b _ _ _ h _ => (hb.block b (Array.getElem?_eq_some_iff.1 h).1).trans h
theorem Only.grown {base e size n : Nat} {w w' : World} {v : Value} {xs : List Value} (ho : w.ownsRow base e size v n xs) (hg : w.grownBy w' v.ownBlock) : Only [e] w w' := fun b a T fr h hT => by
 refine (hg.block b (Array.getElem?_eq_some_iff.1 h).1 ?_).trans h
 intro e2
 rcases own_type_far ho h (fun e3 => hT (by rw [e3]; simp)) with h1 | h1
 ·rw [h1] at e2; cases e2
 ·exact h1 e2.symm
theorem Only.own {Ts : List TypeId} {w w' : World} (h : Only Ts w w') {base e size n : Nat} {v : Value} {xs : List Value} (ho : w.ownsRow base e size v n xs) (he : e ∉ Ts) : w'.ownsRow base e size v n xs := by
 refine ⟨ho.1, ?_⟩
 rcases ho.2 with hn | ⟨g, cap, cur, rfl, hb, hgg, rest⟩
 ·exact .inl hn
 ·exact .inr ⟨g, cap, cur, rfl, hb, h g _ _ _ hgg he, rest⟩
theorem Only.blk {Ts : List TypeId} {w w' : World} (h : Only Ts w w') {b : Nat} {cs : List Value} {t : TypeId} (hb : Blk w b cs t) (he : t ∉ Ts) : Blk w' b cs t := h b _ _ _ hb he
theorem Only.mono {Ts Us : List TypeId} {w w' : World} (h : Only Ts w w') (hs : ∀ T ∈ Ts, T ∈ Us) : Only Us w w' := fun b a T fr hb hT => h b a T fr hb (fun e => hT (hs T e))
end Go.Proofs.YtmhpfmanagbggaaGreatDoor

namespace Go.Proofs.YtmhpfmanagbggaaGreatDoor
open Go Go.RowKit

def mrkE (k : Int) (n : Nat) : List Edge := (List.range n).map fun i => ⟨k + 3 * (i : Nat), k + 3 * (i : Nat) + 1, k + 3 * (i : Nat) + 1 + 1⟩
def markedE (k : Int) (cs : List Value) (j : Nat) : List Value := (mrkE k j).flatMap encE ++ cs.drop (j * 3)
theorem mrkE_len (k : Int) (n : Nat) : (mrkE k n).length = n := by simp [mrkE]
theorem flatE_len (es : List Edge) : (es.flatMap encE).length = es.length * 3 := by
 have := filledE_len es es.length (Nat.le_refl _)
 rw [List.take_length] at this
 exact this
theorem mrkE_flat (k : Int) (n : Nat) : ((mrkE k n).flatMap encE).length = n * 3 := by rw [flatE_len, mrkE_len]
theorem markedE_zero (k : Int) (cs : List Value) : markedE k cs 0 = cs := by simp [markedE, mrkE]
theorem markedE_all (k : Int) (cs : List Value) (n : Nat) (h : cs.length = n * 3) : markedE k cs n = (mrkE k n).flatMap encE := by simp [markedE, ← h]
theorem markedE_set (k : Int) (cs : List Value) (j : Nat) (h : j * 3 + 2 < cs.length) :
  (((markedE k cs j).set (j * 3) (.int .i64 (k + 3 * (j : Nat)))).set (j * 3 + 1) (.int .i64 (k + 3 * (j : Nat) + 1))).set (j * 3 + 2) (.int .i64 (k + 3 * (j : Nat) + 1 + 1)) = markedE k cs (j + 1) := by
 have hl := mrkE_flat k j
 have hm : mrkE k (j + 1) = mrkE k j ++ [⟨k + 3 * (j : Nat), k + 3 * (j : Nat) + 1, k + 3 * (j : Nat) + 1 + 1⟩] := by simp [mrkE, List.range_succ]
 unfold markedE
 rw [hm, List.flatMap_append, List.append_assoc, List.drop_eq_getElem_cons (show j * 3 < cs.length by omega), List.drop_eq_getElem_cons (show j * 3 + 1 < cs.length by omega), List.drop_eq_getElem_cons (show j * 3 + 1 + 1 < cs.length by omega)]
 rw [List.set_append_right _ _ (by omega), List.set_append_right _ _ (by omega), List.set_append_right _ _ (by omega), hl, show j * 3 - j * 3 = 0 from by omega, show j * 3 + 1 - j * 3 = 1 from by omega, show j * 3 + 2 - j * 3 = 2 from by omega,
  show (j + 1) * 3 = j * 3 + 1 + 1 + 1 from by omega]
 simp only [List.set_cons_zero, List.set_cons_succ, List.flatMap_cons, List.flatMap_nil, encE, List.append_nil, List.cons_append, List.nil_append]

set_option maxRecDepth 100000 in
set_option maxHeartbeats 1000000 in
theorem markEdgeS_is (lo : Nat) (v : Value) (n : Nat) (cs : List Value) (k : Int) (w : World) (h1 : 0 ≤ k) (h2 : k + 3 * n ≤ 1000000000) (hv : w.ownsRow lo 67 3 v n cs) :
  Calls Tryz.prog 25 #[v, .int .i64 k] w (Marked w v (k + 3 * n) (fun w' => w'.ownsRow lo 67 3 v n ((mrkE k n).flatMap encE))) := by
 have HV := Lib.hid hv
 have hcl := hv.1
 rcases hv.2 with ⟨rfl, rfl⟩ | ⟨b, cap, cur, rfl, -, -, hcap, hm, -⟩
 ·clear hv
  have hcs : cs = [] := List.eq_nil_of_length_eq_zero (by omega)
  subst hcs
  go_enter Tryz.func25, Tryz.ntmps25
  go_wp2
  go_loop [1, 5] (fun q i => q = .int .i64 k ∧ i = .int .i64 0) (fun _ _ => 0)
  case atStart => exact ⟨rfl, rfl⟩
  case round =>
   obtain ⟨rfl, rfl⟩ := hrel
   go_wp2
   go_ret
   exact ⟨ret_int (by simp), grown_refl _ _, HV.out⟩
 ·clear hv
  have HCL := Lib.hid hcl
  clear hcl
  go_enter Tryz.func25, Tryz.ntmps25
  go_wp2
  go_loopw [1, 5] (fun q i wr => ∃ j : Nat, j ≤ n ∧ q = .int .i64 (k + 3 * j) ∧ i = .int .i64 j ∧ w.grownBy wr (some b) ∧ wr.ownsRow lo 67 3 (.slice (some ⟨b, 0, none⟩) n cap) n (markedE k cs j)) (fun _ i _ => n - (intOf i).toNat)
  case atStart => exact ⟨0, Nat.zero_le _, by simp, rfl, grown_refl _ _, by rw [markedE_zero]; exact HV.out⟩
  case round =>
   obtain ⟨j, hj, rfl, rfl, hg, ho⟩ := hrel
   have HG := Lib.hid hg
   clear hg HV
   by_cases hlt : j < n
   ·obtain ⟨xc0, c0⟩ := own_cell ho (j * 3) (by omega)
    have s0 := ho.stored (j * 3) (.int .i64 (k + 3 * j))
    obtain ⟨xc1, c1⟩ := own_cell s0.1 (j * 3 + 1) (by omega)
    have s1 := s0.1.stored (j * 3 + 1) (.int .i64 (k + 3 * j + 1))
    obtain ⟨xc2, c2⟩ := own_cell s1.1 (j * 3 + 2) (by omega)
    have s2 := s1.1.stored (j * 3 + 2) (.int .i64 (k + 3 * j + 1 + 1))
    rw [markedE_set k cs j (by have := HCL.out; omega)] at s2
    have HO := Lib.hid s2.1
    have HGG := Lib.hid (grown_trans (grown_trans (grown_trans HG.out s0.2) s1.2) s2.2)
    obtain ⟨xg1, g1⟩ := own_cell ho (j * 3 + 1) (by omega)
    obtain ⟨xg2, g2⟩ := own_cell ho (j * 3 + 2) (by omega)
    have f0 := ho.frozenAt (j * 3)
    have f1 := ho.frozenAt (j * 3 + 1)
    have f2 := ho.frozenAt (j * 3 + 2)
    clear ho s0 s1 s2
    go_wp2
    go_roundw
    case rel => exact ⟨j + 1, by omega, by go_num, by go_num, HGG.out, HO.out⟩
    case measure => simp [intOf]; omega
   ·go_wp2
    go_ret
    obtain rfl : j = n := by omega
    refine ⟨rfl, HG.out, ?_⟩
    rw [markedE_all k cs j HCL.out] at ho
    exact ho

set_option maxRecDepth 100000 in
set_option maxHeartbeats 1000000 in
theorem heldEdgeS_is (v : Value) (lo n : Nat) (k : Int) (w : World) (h1 : 0 ≤ k) (h2 : k + 3 * n ≤ 1000000000) (hv : SliceK 3 encE lo w v (mrkE k n)) :
  Calls Tryz.prog 56 #[v, .int .i64 k] w fun e w' => e = .returned (.int .i64 (k + 3 * n)) ∧ w = w' := by
 obtain ⟨a, cap, rfl, hn, hcap, hr⟩ := hv
 have hl := mrkE_len k n
 rw [hl] at hn ⊢
 have HL := Lib.hid hl
 have HR := Lib.hid hr
 clear hl hr
 go_enter Tryz.func56, Tryz.ntmps56
 go_wp2
 go_loop [1, 5] (fun q i => ∃ j : Nat, j ≤ n ∧ q = .int .i64 (k + 3 * j) ∧ i = .int .i64 j) (fun _ i => n - (intOf i).toNat)
 case atStart => exact ⟨0, Nat.zero_le _, by simp, rfl⟩
 case round =>
  obtain ⟨j, hj, rfl, rfl⟩ := hrel
  by_cases hlt : j < n
  ·obtain ⟨b, off, rfl, -, -, c0, c1, c2⟩ := HR.out.edge (i := j) (by rw [HL.out]; exact hlt)
   simp only [mrkE, List.getElem_map, List.getElem_range] at c0 c1 c2
   go_wp2
   go_round
   case rel => exact ⟨j + 1, by omega, by go_num, by go_num⟩
   case measure => simp [intOf]; omega
  ·go_wp2
   go_ret
   obtain rfl : j = n := by omega
   exact ⟨rfl, rfl⟩

/-- The system whose slices hold the marks from k on. -/
def mrkL (k : Int) (t : Lts) : Lts := ⟨t.states, t.initial, mrkS k t.labels.length, mrkE (k + t.labels.length) t.edges.length⟩
def markLen (t : Lts) : Int := (t.labels.length : Int) + 3 * (t.edges.length : Int)

set_option maxHeartbeats 1000000 in
theorem markLts_is (lo : Nat) (lv ev : Value) (t : Lts) (x y : Int) (k : Int) (w : World) (h1 : 0 ≤ k) (h2 : k + markLen t ≤ 1000000000) (hlo : lo ≤ w.heap.size) (hv : OwnLts lo w lv ev t) :
  Calls Tryz.prog 10 #[.agg #[.int .i64 x, .int .i64 y, lv, ev], .int .i64 k] w fun e w' => e = .returned (.int .i64 (k + markLen t)) ∧ Below lo w w' ∧ OwnLts lo w' lv ev (mrkL k t)
   ∧ Only [9, 67] w w' := by
 unfold markLen at h2 ⊢
 obtain ⟨al, cl, rfl, -, -⟩ := owns_slice hv.1
 obtain ⟨ae, ce, rfl, -, -⟩ := owns_slice hv.2
 obtain ⟨NL, hNL⟩ : ∃ NL, NL = t.labels.length := ⟨_, rfl⟩
 obtain ⟨NE, hNE⟩ : ∃ NE, NE = t.edges.length := ⟨_, rfl⟩
 obtain ⟨W, hW⟩ : ∃ W, W = w.alloc (.cells #[.int .i64 x, .int .i64 y, .slice al t.labels.length cl, .slice ae t.edges.length ce] 29) := ⟨_, rfl⟩
 have hb0 : Below w.heap.size w W := by rw [hW]; exact (Below.refl _ w).alloc (Nat.le_refl _) _
 have A0 : Hid (Blk W w.heap.size [.int .i64 x, .int .i64 y, .slice al t.labels.length cl, .slice ae t.edges.length ce] 29) := by unfold Hid; rw [hW]; exact Blk.new w _ _
 have hs0 : lo ≤ W.heap.size := Nat.le_trans hlo hb0.size
 have V1 := Lib.hid (owns_below hv.1 hb0)
 have V2 := Lib.hid (owns_below hv.2 hb0)
 have M1 := Lib.hid (markStringS_is lo _ (t.labels.map .string) k W h1 (by rw [List.length_map]; omega) (by rw [List.length_map]; exact V1.out))
 rw [List.length_map] at M1
 have HB0 := Lib.hid hb0
 have HW := Lib.hid hW
 rw [← hNL] at M1 V1 h2 hW A0 ⊢
 rw [← hNE] at V2 h2 hW A0 ⊢
 have HW := Lib.hid hW
 have HNL := Lib.hid hNL
 have HNE := Lib.hid hNE
 clear hv hb0 hW hNL hNE
 go_enter Tryz.func10, Tryz.ntmps10
 go_wp2_with fail
 rw [← HW.out]
 refine Calls.mono M1.out ?_
 rintro e w1 ⟨rfl, hg1, ho1⟩
 have hb1 : Below lo W w1 := below_grown hg1 hs0 (fun b e => (V1.out.lt b e).1)
 have HB1 := Lib.hid ((HB0.out.mono hlo).trans hb1)
 have A1 : Hid (Blk w1 w.heap.size _ _) := (hg1.block _ A0.out.lt (by
  intro e
  have := (V1.out.lt _ e.symm).1
  rcases own_type_far V1.out A0.out (by decide) with h | h
  ·rw [h] at e; cases e
  ·exact h e.symm)).trans A0.out
 have W2 := Lib.hid (V2.out.kept hg1 (own_types V2.out V1.out (by decide)))
 have HO1 := Lib.hid ho1
 have HG1 := Lib.hid hg1
 have M2 := Lib.hid (markEdgeS_is lo (.slice ae NE ce) NE _ (k + NL) w1 (by omega) (by omega) W2.out)
 have hs1 : lo ≤ w1.heap.size := Nat.le_trans hs0 hg1.size
 have a3 := A1.out.cell 3 rfl
 clear ho1 hg1 hb1 M1
 go_wp2_with fail
 refine Calls.mono M2.out ?_
 rintro e w2 ⟨rfl, hg2, ho2⟩
 have hb2 : Below lo w1 w2 := below_grown hg2 hs1 (fun b e => (W2.out.lt b e).1)
 have HB2 := Lib.hid (HB1.out.trans hb2)
 have HO2 := Lib.hid ho2
 have HG2 := Lib.hid hg2
 clear ho2 hg2 hb2 M2
 go_wp2_with fail
 go_ret
 refine ⟨ret_int (by omega), HB2.out, ?_, ?_⟩
 ·unfold OwnLts mrkL
  rw [mrkS_len, mrkE_len, ← HNL.out, ← HNE.out]
  exact ⟨HO1.out.kept HG2.out (own_types HO1.out W2.out (by decide)), HO2.out⟩
 ·exact (((Only.below [] HB0.out).trans (Only.grown V1.out HG1.out)).trans (Only.grown W2.out HG2.out))

set_option maxHeartbeats 1000000 in
theorem heldLts_is (lo : Nat) (lv ev : Value) (t : Lts) (x y : Int) (k : Int) (w : World) (h1 : 0 ≤ k) (h2 : k + markLen t ≤ 1000000000) (hv : OwnLts lo w lv ev (mrkL k t)) :
  Calls Tryz.prog 27 #[.agg #[.int .i64 x, .int .i64 y, lv, ev], .int .i64 k] w fun e w' => e = .returned (.int .i64 (k + markLen t)) ∧ Below w.heap.size w w' := by
 unfold markLen at h2 ⊢
 unfold OwnLts mrkL at hv
 rw [mrkS_len, mrkE_len] at hv
 obtain ⟨al, cl, rfl, -, -⟩ := owns_slice hv.1
 obtain ⟨ae, ce, rfl, -, -⟩ := owns_slice hv.2
 obtain ⟨NL, hNL⟩ : ∃ NL, NL = t.labels.length := ⟨_, rfl⟩
 obtain ⟨NE, hNE⟩ : ∃ NE, NE = t.edges.length := ⟨_, rfl⟩
 rw [← hNL, ← hNE] at hv h2 ⊢
 obtain ⟨W, hW⟩ : ∃ W, W = w.alloc (.cells #[.int .i64 x, .int .i64 y, .slice al NL cl, .slice ae NE ce] 29) := ⟨_, rfl⟩
 have hb0 : Below w.heap.size w W := by rw [hW]; exact (Below.refl _ w).alloc (Nat.le_refl _) _
 have A0 : Hid (Blk W w.heap.size [.int .i64 x, .int .i64 y, .slice al NL cl, .slice ae NE ce] 29) := by unfold Hid; rw [hW]; exact Blk.new w _ _
 have V1 := Lib.hid (owns_below hv.1 hb0)
 have V2 := Lib.hid (owns_below hv.2 hb0)
 have M1 := Lib.hid (heldStringS_is (.slice al NL cl) lo NL k W h1 (by omega) (SliceK.of_owns (e := 9) encS_len (mrkS_len _ _).symm (by rw [flat_encS]; exact V1.out)))
 have HB0 := Lib.hid hb0
 have HW := Lib.hid hW
 have hs0 := hb0.size
 clear hv hb0 hW hNL hNE
 go_enter Tryz.func27, Tryz.ntmps27
 go_wp2_with fail
 rw [← HW.out]
 refine Calls.mono M1.out ?_
 rintro e w1 ⟨rfl, hb1⟩
 have HB1 := Lib.hid (HB0.out.trans (hb1.mono hs0))
 have A1 := Lib.hid (A0.out.below hb1)
 have V3 := Lib.hid (owns_below V2.out hb1)
 have M2 := Lib.hid (heldEdgeS_is (.slice ae NE ce) lo NE (k + NL) w1 (by omega) (by omega) (SliceK.of_owns (e := 67) encE_len (mrkE_len _ _).symm V3.out))
 have a3 := A1.out.cell 3 rfl
 clear hb1 M1
 go_wp2_with fail
 refine Calls.mono M2.out ?_
 rintro e w2 ⟨rfl, rfl⟩
 clear M2
 go_wp2_with fail
 go_ret
 exact ⟨ret_int (by omega), HB1.out⟩

end Go.Proofs.YtmhpfmanagbggaaGreatDoor

namespace Go.Proofs.YtmhpfmanagbggaaGreatDoor
open Go Go.RowKit

theorem szS_fit (ss : List ByteArray) (left : Int) (h0 : 0 ≤ left) (h : 0 ≤ szS ss left) : ∀ s ∈ ss, (s.size : Int) ≤ left := by
 induction ss generalizing left with
 | nil => intro s hs; cases hs
 | cons a r ih =>
  unfold szS at h
  split at h
  ·omega
  ·next hl =>
   intro s hs
   rcases List.mem_cons.1 hs with rfl | hs
   ·omega
   ·have := ih (left - a.size) (by omega) h s hs
    omega
theorem szL_fit {t : Lts} {left : Int} (_h0 : 0 ≤ left) (h : 0 ≤ szL t left) : (t.labels.length : Int) ≤ left ∧ (t.edges.length : Int) ≤ left ∧ (∀ s ∈ t.labels, (s.size : Int) ≤ left) ∧ szL t left ≤ left := by
 unfold szL at h ⊢
 split at h
 ·omega
 ·next h1 =>
  rw [if_neg h1]
  split at h
  ·omega
  ·next h2 =>
   rw [if_neg h2]
   have h3 : ¬ left - t.labels.length < 0 := by
    intro e
    rw [szSS_neg e] at h1
    omega
   rw [szSS_pos h3] at h1 h2 h ⊢
   have h4 := szS_lt t.labels (left - t.labels.length) (by omega)
   have h5 : ¬ szS t.labels (left - t.labels.length) - t.edges.length < 0 := by
    intro e
    rw [szN_neg e] at h2
    omega
   rw [szN_pos h5] at h ⊢
   refine ⟨by omega, by omega, fun s hs => ?_, by omega⟩
   have := szS_fit t.labels (left - t.labels.length) (by omega) (by omega) s hs
   omega

end Go.Proofs.YtmhpfmanagbggaaGreatDoor

namespace Go.Proofs.YtmhpfmanagbggaaGreatDoor
open Go Go.RowKit

theorem blk4 {w : World} {b : Nat} {c0 c1 c2 c3 : Value} {T : TypeId} (h : Blk w b [c0, c1, c2, c3] T) :
  w.cell? ⟨b, 0, none⟩ = some c0 ∧ w.cell? ⟨b, 1, none⟩ = some c1 ∧ w.cell? ⟨b, 2, none⟩ = some c2 ∧ w.cell? ⟨b, 3, none⟩ = some c3 :=
 ⟨h.cell 0 rfl, h.cell 1 rfl, h.cell 2 rfl, h.cell 3 rfl⟩
theorem boxNew (w : World) (a : Array Value) (T : TypeId) : Below w.heap.size w (w.alloc (.cells a T)) := (Below.refl _ _).alloc (Nat.le_refl _) _

/-- A copy of a system, with both slices in blocks of its own. -/
structure Copy (B : Nat) (t : Lts) (b1 b2 : Nat) (w : World) : Prop where
 h1 : B ≤ b1
 h2 : b1 < b2
 h3 : b2 < w.heap.size
 o1 : w.ownsRow B 9 1 (.slice (some ⟨b1, 0, none⟩) t.labels.length t.labels.length) t.labels.length (t.labels.map .string)
 o2 : w.ownsRow b2 67 3 (.slice (some ⟨b2, 0, none⟩) t.edges.length t.edges.length) t.edges.length (t.edges.flatMap encE)
theorem Copy.below {B : Nat} {t : Lts} {b1 b2 : Nat} {w w' : World} (h : Copy B t b1 b2 w) (hb : Below w.heap.size w w') : Copy B t b1 b2 w' :=
 ⟨h.h1, h.h2, Nat.lt_of_lt_of_le h.h3 hb.size, owns_below h.o1 hb, owns_below h.o2 hb⟩
theorem Copy.labels {B : Nat} {t : Lts} {b1 b2 : Nat} {w : World} (h : Copy B t b1 b2 w) : SliceK 1 encS 0 w (.slice (some ⟨b1, 0, none⟩) t.labels.length t.labels.length) t.labels :=
 SliceK.of_owns (e := 9) encS_len rfl (by rw [flat_encS]; exact own_lower h.o1 (Nat.zero_le _))
theorem Copy.edges {B : Nat} {t : Lts} {b1 b2 : Nat} {w : World} (h : Copy B t b1 b2 w) : SliceK 3 encE 0 w (.slice (some ⟨b2, 0, none⟩) t.edges.length t.edges.length) t.edges :=
 SliceK.of_owns (e := 67) encE_len rfl (own_lower h.o2 (Nat.zero_le _))
theorem Copy.at {B : Nat} {t : Lts} {b1 b2 : Nat} {w : World} (h : Copy B t b1 b2 w) : LtsAt 0 w (.agg #[.int .i64 t.states, .int .i64 t.initial, .slice (some ⟨b1, 0, none⟩) t.labels.length t.labels.length, .slice (some ⟨b2, 0, none⟩) t.edges.length t.edges.length]) t :=
 ⟨_, _, rfl, h.labels, h.edges⟩
theorem Copy.turns {B : Nat} {t : Lts} {b1 b2 lo hi : Nat} {w w' : World} (h : Copy B t b1 b2 w) (ht : Turns lo hi w w') (hB : hi ≤ B) : Copy B t b1 b2 w' :=
 ⟨h.h1, h.h2, Nat.lt_of_lt_of_le h.h3 ht.size, owns_turns h.o1 ht (fun b e => by have := (h.o1.lt b e).1; omega), owns_turns h.o2 ht (fun b e => by have := (h.o2.lt b e).1; have := h.h1; have := h.h2; omega)⟩
def CopyMade (t : Lts) (w : World) (e : Ending) (w' : World) : Prop := ∃ b1 b2, e = .returned (.agg #[.int .i64 t.states, .int .i64 t.initial, .slice (some ⟨b1, 0, none⟩) t.labels.length t.labels.length, .slice (some ⟨b2, 0, none⟩) t.edges.length t.edges.length]) ∧ Below w.heap.size w w' ∧ Copy w.heap.size t b1 b2 w'
theorem copy_any (lo : Nat) (t : Lts) (lv ev : Value) (w : World) (hl : t.labels.length ≤ 1048576) (he : t.edges.length ≤ 1048576) (h1 : SliceK 1 encS lo w lv t.labels) (h2 : SliceK 3 encE lo w ev t.edges) :
  Calls Tryz.prog 6 #[.agg #[.int .i64 t.states, .int .i64 t.initial, lv, ev]] w (CopyMade t w) :=
 (toLts_any (.agg #[.int .i64 t.states, .int .i64 t.initial, lv, ev]) lo t w hl he ⟨lv, ev, rfl, h1, h2⟩).mono fun _ _ ⟨b1, b2, he, hb, h1, h2, h3, h4, h5⟩ => ⟨b1, b2, he, hb, h1, h2, h3, h4, h5⟩

theorem Only.lts {Ts : List TypeId} {w w' : World} (h : Only Ts w w') {lo : Nat} {lv ev : Value} {t : Lts} (ho : OwnLts lo w lv ev t) (h1 : 9 ∉ Ts) (h2 : 67 ∉ Ts) : OwnLts lo w' lv ev t := ⟨h.own ho.1 h1, h.own ho.2 h2⟩
end Go.Proofs.YtmhpfmanagbggaaGreatDoor

namespace Go.Proofs.YtmhpfmanagbggaaGreatDoor
open Go Go.RowKit

/-- The monitor whose slices hold the marks from k on. -/
def mrkM (k : Int) (m : Mon) : Mon := ⟨mrkL k m.sys, seqI (k + markLen m.sys) m.vs.length⟩
def markLenM (m : Mon) : Int := markLen m.sys + (m.vs.length : Int)

set_option maxHeartbeats 1000000 in
theorem markMonitor_is (lo : Nat) (lv ev vv : Value) (m : Mon) (x y : Int) (k : Int) (w : World) (h1 : 0 ≤ k) (h2 : k + markLenM m ≤ 1000000000) (hlo : lo ≤ w.heap.size) (hv : OwnMon lo w lv ev vv m) :
  Calls Tryz.prog 11 #[.agg #[.int .i64 x, .int .i64 y, lv, ev, vv], .int .i64 k] w fun e w' => e = .returned (.int .i64 (k + markLenM m)) ∧ Below lo w w' ∧ OwnMon lo w' lv ev vv (mrkM k m)
   ∧ Only [9, 67, 2] w w' := by
 unfold markLenM at h2 ⊢
 have hml : 0 ≤ markLen m.sys := by unfold markLen; omega
 obtain ⟨al, cl, rfl, -, -⟩ := owns_slice hv.1.1
 obtain ⟨ae, ce, rfl, -, -⟩ := owns_slice hv.1.2
 obtain ⟨am, cm, rfl, -, -⟩ := owns_slice hv.2
 obtain ⟨W, hW⟩ : ∃ W, W = w.alloc (.cells #[.int .i64 x, .int .i64 y, .slice al m.sys.labels.length cl, .slice ae m.sys.edges.length ce, .slice am m.vs.length cm] 32) := ⟨_, rfl⟩
 have hb0 : Below w.heap.size w W := by rw [hW]; exact (Below.refl _ w).alloc (Nat.le_refl _) _
 have A0 : Hid (Blk W w.heap.size [.int .i64 x, .int .i64 y, .slice al m.sys.labels.length cl, .slice ae m.sys.edges.length ce, .slice am m.vs.length cm] 32) := by unfold Hid; rw [hW]; exact Blk.new w _ _
 have hs0 : lo ≤ W.heap.size := Nat.le_trans hlo hb0.size
 have HM1 := Lib.hid (markLts_is lo (.slice al m.sys.labels.length cl) (.slice ae m.sys.edges.length ce) m.sys x y k W h1 (by omega) hs0 (hv.1.below hb0))
 have V2 := Lib.hid (owns_below hv.2 hb0)
 have HB0 := Lib.hid hb0
 have HW := Lib.hid hW
 obtain ⟨NV, hNV⟩ : ∃ NV, NV = m.vs.length := ⟨_, rfl⟩
 obtain ⟨ML, hML⟩ : ∃ ML, ML = markLen m.sys := ⟨_, rfl⟩
 obtain ⟨NL, hNL⟩ : ∃ NL, NL = m.sys.labels.length := ⟨_, rfl⟩
 obtain ⟨NE, hNE⟩ : ∃ NE, NE = m.sys.edges.length := ⟨_, rfl⟩
 rw [← hNL, ← hNE] at HM1
 rw [← hML] at HM1 h2 hml ⊢
 rw [← hNV] at V2 h2 ⊢
 rw [← hNV, ← hNL, ← hNE] at HW A0
 rw [← hNL, ← hNE]
 have HNV := Lib.hid hNV
 have HML := Lib.hid hML
 clear hv hb0 hW hNV hML hNL hNE
 go_enter Tryz.func11, Tryz.ntmps11
 go_wp2_with fail
 rw [← HW.out]
 refine Calls.mono HM1.out ?_
 rintro e w1 ⟨rfl, hb1, ho1, hon1⟩
 have HB1 := Lib.hid ((HB0.out.mono hlo).trans hb1)
 have A1 := Lib.hid (hon1.blk A0.out (by decide))
 have W2 := Lib.hid (hon1.own V2.out (by decide))
 have HO1 := Lib.hid ho1
 have HON1 := Lib.hid hon1
 have M2 := Lib.hid (markInt64S_any lo (.slice am NV cm) (m.vs.map (Value.int .i64)) (k + ML) w1 (by omega) (by rw [List.length_map, ← HNV.out]; omega) (by rw [List.length_map, ← HNV.out]; exact W2.out))
 rw [List.length_map, ← HNV.out] at M2
 have hs1 : lo ≤ w1.heap.size := Nat.le_trans hs0 hb1.size
 have a4 := A1.out.cell 4 rfl
 clear ho1 hon1 hb1 HM1
 go_wp2_with fail
 refine Calls.mono M2.out ?_
 rintro e w2 ⟨rfl, hg2, ho2⟩
 have hb2 : Below lo w1 w2 := below_grown hg2 hs1 (fun b e => (W2.out.lt b e).1)
 have HB2 := Lib.hid (HB1.out.trans hb2)
 have HO2 := Lib.hid ho2
 have HG2 := Lib.hid (Only.grown W2.out hg2)
 clear ho2 hg2 hb2 M2
 go_wp2_with fail
 go_ret
 refine ⟨ret_int (by omega), HB2.out, ⟨?_, ?_⟩, ?_⟩
 ·exact HG2.out.lts HO1.out (by decide) (by decide)
 ·have h := HO2.out
  have e1 : marked (k + ML) (m.vs.map (Value.int .i64)) NV = (seqI (k + ML) NV).map (Value.int .i64) := by
   have h9 := marked_all (k + ML) (m.vs.map (Value.int .i64))
   rw [List.length_map, ← HNV.out] at h9
   rw [h9]
   unfold seqI
   rw [List.map_map]
   rfl
  rw [e1] at h
  show w2.ownsRow lo 2 1 _ (seqI (k + markLen m.sys) m.vs.length).length ((seqI (k + markLen m.sys) m.vs.length).map (Value.int .i64))
  rw [← HML.out, ← HNV.out, show (seqI (k + ML) NV).length = NV from by simp [seqI]]
  exact h
 ·exact ((Only.below [] HB0.out).trans HON1.out).trans HG2.out

set_option maxHeartbeats 1000000 in
theorem heldMonitor_is (lo : Nat) (lv ev vv : Value) (m : Mon) (x y : Int) (k : Int) (w : World) (h1 : 0 ≤ k) (h2 : k + markLenM m ≤ 1000000000) (hv : OwnMon lo w lv ev vv (mrkM k m)) :
  Calls Tryz.prog 12 #[.agg #[.int .i64 x, .int .i64 y, lv, ev, vv], .int .i64 k] w fun e w' => e = .returned (.int .i64 (k + markLenM m)) ∧ Below w.heap.size w w' := by
 unfold markLenM at h2 ⊢
 have hml : 0 ≤ markLen m.sys := by unfold markLen; omega
 obtain ⟨al, cl, rfl, -, -⟩ := owns_slice hv.1.1
 obtain ⟨ae, ce, rfl, -, -⟩ := owns_slice hv.1.2
 obtain ⟨am, cm, rfl, -, -⟩ := owns_slice hv.2
 obtain ⟨NL, hNL⟩ : ∃ NL, NL = (mrkM k m).sys.labels.length := ⟨_, rfl⟩
 obtain ⟨NE, hNE⟩ : ∃ NE, NE = (mrkM k m).sys.edges.length := ⟨_, rfl⟩
 obtain ⟨NV, hNV⟩ : ∃ NV, NV = (mrkM k m).vs.length := ⟨_, rfl⟩
 have hNV2 : NV = m.vs.length := by rw [hNV]; unfold mrkM; simp [seqI]
 rw [← hNL, ← hNE, ← hNV]
 obtain ⟨W, hW⟩ : ∃ W, W = w.alloc (.cells #[.int .i64 x, .int .i64 y, .slice al NL cl, .slice ae NE ce, .slice am NV cm] 32) := ⟨_, rfl⟩
 have hb0 : Below w.heap.size w W := by rw [hW]; exact (Below.refl _ w).alloc (Nat.le_refl _) _
 have A0 : Hid (Blk W w.heap.size [.int .i64 x, .int .i64 y, .slice al NL cl, .slice ae NE ce, .slice am NV cm] 32) := by unfold Hid; rw [hW]; exact Blk.new w _ _
 have HM1 := Lib.hid (heldLts_is lo (.slice al NL cl) (.slice ae NE ce) m.sys x y k W h1 (by omega) (by rw [hNL, hNE]; exact hv.1.below hb0))
 have V2 : Hid (W.ownsRow lo 2 1 (.slice am NV cm) NV ((seqI (k + markLen m.sys) NV).map (Value.int .i64))) := by
  have h := owns_below hv.2 hb0
  rw [← hNV] at h
  have e : (mrkM k m).vs = seqI (k + markLen m.sys) NV := by rw [hNV2]; rfl
  rw [e] at h
  exact h
 have HB0 := Lib.hid hb0
 have HW := Lib.hid hW
 have hs0 := hb0.size
 obtain ⟨ML, hML⟩ : ∃ ML, ML = markLen m.sys := ⟨_, rfl⟩
 rw [← hML] at HM1 h2 hml V2 ⊢
 rw [← hNV2] at h2 ⊢
 clear hv hb0 hW hNL hNE hNV hNV2 hML
 go_enter Tryz.func12, Tryz.ntmps12
 go_wp2_with fail
 rw [← HW.out]
 refine Calls.mono HM1.out ?_
 rintro e w1 ⟨rfl, hb1⟩
 have HB1 := Lib.hid (HB0.out.trans (hb1.mono hs0))
 have A1 := Lib.hid (A0.out.below hb1)
 have V3 := Lib.hid (owns_below V2.out hb1)
 have M2 := Lib.hid (heldInt64S_same (.slice am NV cm) lo NV (k + ML) w1 (by omega) (by omega) (SliceK.of_owns (enc := encI) (e := 2) encI_len (show NV = (seqI (k + ML) NV).length from by simp [seqI]) (by rw [flat_encI]; exact V3.out)))
 have a4 := A1.out.cell 4 rfl
 have hk1 : ¬ k + ML < 0 := by omega
 have hk2 : ¬ k + ML + (NV : Int) < 0 := by omega
 clear hb1 HM1
 go_wp2_with fail
 refine Calls.mono M2.out ?_
 rintro e w2 ⟨rfl, rfl⟩
 clear M2
 go_wp2_with fail
 go_ret
 exact ⟨ret_int (by omega), HB1.out⟩

end Go.Proofs.YtmhpfmanagbggaaGreatDoor
