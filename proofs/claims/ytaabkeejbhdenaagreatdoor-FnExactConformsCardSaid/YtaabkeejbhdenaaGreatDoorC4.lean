/-
  What the implementation's isState and compareEdges compute.
  Sets of states as ascending lists; what internal edges reach; the deterministic system of a system, found row for row. Plain definitions; no program in sight.
  Lists in ascending order: one list for each set; what is left of a sorted list when equal neighbours are made one.
-/
import Derived.Test.YtaabkeejbhdenaaGreatDoorC3
import Derived.StillTailTactics
import Derived.Lib.SlicesCompact
import Derived.Lib.RowBridge
namespace Go.Proofs.YtaabkeejbhdenaaGreatDoor
open Go Go.RowKit

theorem isState_any (lv ev : Value) (s i k : Int) (w : World) (h1 : 1 ≤ s) (h2 : s ≤ 40) :
  Calls Tryz.prog 53 #[.agg #[.int .i64 s, .int .i64 i, lv, ev], .int .i64 k] w fun e w' => e = .returned (.bool (inB k 0 (s - 1))) ∧ Below w.heap.size w w' := by
 have HB : Hid (Below w.heap.size w (w.alloc (.cells #[.int .i64 s, .int .i64 i, lv, ev] 29))) := (Below.refl _ _).alloc (Nat.le_refl _) _
 go_enter Tryz.func53, Tryz.ntmps53
 go_wp2_with fail
 refine (within_any _ _ _ _).mono ?_
 rintro e w' ⟨rfl, rfl⟩
 go_wp2_with fail
 go_ret
 exact ⟨rfl, HB.out⟩

def cmpI (a b : Int) : Int := if a < b then -1 else if b < a then 1 else 0

theorem isNaN_any (a : Int) (w : World) : Calls Tryz.prog 143 #[.int .i64 a] w fun e w' => e = .returned (.bool false) ∧ w = w' := by
 go_enter Tryz.func143, Tryz.ntmps143
 go_wp2
 go_ret
 exact ⟨ret_bool (by simp), rfl⟩

theorem Compare_any (a b : Int) (w : World) : Calls Tryz.prog 95 #[.int .i64 a, .int .i64 b] w fun e w' => e = .returned (.int .i64 (cmpI a b)) ∧ w = w' := by
 by_cases h1 : a < b
 ·have HF : Hid (cmpI a b = -1) := by unfold Hid cmpI; rw [if_pos h1]
  go_enter Tryz.func95, Tryz.ntmps95
  go_wp2_with fail
  refine (isNaN_any _ _).mono ?_
  rintro e w' ⟨rfl, rfl⟩
  go_wp2_with fail
  refine (isNaN_any _ _).mono ?_
  rintro e w' ⟨rfl, rfl⟩
  go_wp2_with fail
  go_ret
  exact ⟨ret_int HF.out.symm, rfl⟩
 ·by_cases h2 : b < a
  ·have HF : Hid (cmpI a b = 1) := by unfold Hid cmpI; rw [if_neg h1, if_pos h2]
   go_enter Tryz.func95, Tryz.ntmps95
   go_wp2_with fail
   refine (isNaN_any _ _).mono ?_
   rintro e w' ⟨rfl, rfl⟩
   go_wp2_with fail
   refine (isNaN_any _ _).mono ?_
   rintro e w' ⟨rfl, rfl⟩
   go_wp2_with fail
   go_ret
   exact ⟨ret_int HF.out.symm, rfl⟩
  ·have HF : Hid (cmpI a b = 0) := by unfold Hid cmpI; rw [if_neg h1, if_neg h2]
   go_enter Tryz.func95, Tryz.ntmps95
   go_wp2_with fail
   refine (isNaN_any _ _).mono ?_
   rintro e w' ⟨rfl, rfl⟩
   go_wp2_with fail
   refine (isNaN_any _ _).mono ?_
   rintro e w' ⟨rfl, rfl⟩
   go_wp2_with fail
   go_ret
   exact ⟨ret_int HF.out.symm, rfl⟩

def orI (xs : List Int) : Int := (xs.find? fun x => x != 0).getD 0

theorem orI_hit {xs : List Int} {k : Nat} (h : k < xs.length) (hb : ∀ j (h : j < xs.length), j < k → xs[j] = 0) (hn : xs[k] ≠ 0) : orI xs = xs[k] := by
 unfold orI
 have : xs.find? (fun x => x != 0) = some xs[k] := by
  rw [List.find?_eq_some_iff_getElem]
  exact ⟨by simpa using hn, k, h, rfl, fun j hj => by simpa using hb j (by omega) hj⟩
 rw [this]; rfl
theorem orI_none {xs : List Int} (hb : ∀ j (h : j < xs.length), xs[j] = 0) : orI xs = 0 := by
 unfold orI
 have : xs.find? (fun x => x != 0) = none := by
  rw [List.find?_eq_none]
  intro x hx
  obtain ⟨j, hj, rfl⟩ := List.mem_iff_getElem.1 hx
  simpa using hb j hj
 rw [this]; rfl

theorem Or_any (lo : Nat) (v : Value) (xs : List Int) (w : World) (hv : SliceK 1 encI lo w v xs) :
  Calls Tryz.prog 94 #[v] w fun e w' => e = .returned (.int .i64 (orI xs)) ∧ w = w' := by
 obtain ⟨a, c, rfl, hcn, hcc, hrow⟩ := hv
 go_enter Tryz.func94, Tryz.ntmps94
 go_wp2_with fail
 go_loop [8] (fun i => ∃ k : Nat, k ≤ xs.length ∧ i = .int .i64 k ∧ ∀ j (h : j < xs.length), j < k → xs[j] = 0) (fun i => xs.length - (intOf i).toNat)
 case atStart => exact ⟨0, Nat.zero_le _, rfl, fun _ _ h => by omega⟩
 case round =>
  obtain ⟨k, hk, rfl, ha⟩ := hrel
  have HA := Lib.hid ha
  clear ha
  by_cases hlt : k < xs.length
  ·obtain ⟨b1, o1, rfl, -, hbs, c1⟩ := hrow.one hlt
   simp only [encI, List.getElem?_cons_zero] at c1
   clear hrow
   obtain ⟨x, hx⟩ : ∃ x, x = xs[k] := ⟨_, rfl⟩
   rw [← hx] at c1
   have HX := Lib.hid hx
   clear hx
   cases h0 : (x != 0)
   ·have h0' : x = 0 := by simpa using h0
    go_wp2_with fail
    go_round
    case rel => exact ⟨k + 1, by omega, by go_num, fun j h hj => by
     by_cases e : j = k
     ·subst e; rw [← HX.out]; exact h0'
     ·exact HA.out j h (by omega)⟩
    case measure => simp [intOf]; omega
   ·have hf : orI xs = x := by rw [HX.out]; exact orI_hit hlt HA.out (by rw [← HX.out]; simpa using h0)
    have HF := Lib.hid hf
    clear hf
    go_wp2_with fail
    go_ret
    exact ⟨ret_int HF.out.symm, rfl⟩
  ·clear hrow
   go_wp2_with fail
   go_ret
   exact ⟨ret_int (orI_none fun j h => HA.out j h (by omega)).symm, rfl⟩

def cmpE (a b : Edge) : Int := orI [cmpI a.src b.src, cmpI a.lab b.lab, cmpI a.dst b.dst]
theorem cmpE_less (a b : Edge) : decide (0 ≤ cmpE a b) = !edgeLess a b := by
 unfold cmpE orI edgeLess cmpI
 by_cases h1 : a.src < b.src
 ·have : a.src ≠ b.src := by omega
  simp [h1, this]
 ·by_cases h2 : b.src < a.src
  ·have : a.src ≠ b.src := by omega
   simp [h1, h2, this]
  ·have e : a.src = b.src := by omega
   by_cases h3 : a.lab < b.lab
   ·have : a.lab ≠ b.lab := by omega
    simp [h3, this, e]
   ·by_cases h4 : b.lab < a.lab
    ·have : a.lab ≠ b.lab := by omega
     simp [h3, h4, this, e]
    ·have e2 : a.lab = b.lab := by omega
     by_cases h5 : a.dst < b.dst
     ·simp [h5, e, e2]
     ·by_cases h6 : b.dst < a.dst
      ·simp [h5, h6, e, e2]
      ·simp [h5, h6, e, e2]

theorem still_same {P : Program} {f : FuncId} {args : Array Value} {w : World} {v : Value} (h : Calls P f args w fun e w' => e = .returned v ∧ w = w') : Calls P f args w fun e w' => e = .returned v ∧ w' = w :=
 h.mono fun _ _ ⟨he, hw⟩ => ⟨he, hw.symm⟩

set_option maxRecDepth 100000 in
theorem compareEdges_any (a b : Edge) (w : World) : Calls Tryz.prog 56 #[.agg #[.int .i64 a.src, .int .i64 a.lab, .int .i64 a.dst], .agg #[.int .i64 b.src, .int .i64 b.lab, .int .i64 b.dst]] w fun e w' => e = .returned (.int .i64 (cmpE a b)) ∧ Below w.heap.size w w' := by
 obtain ⟨W, hW⟩ : ∃ W, W = (w.alloc (.cells #[.int .i64 a.src, .int .i64 a.lab, .int .i64 a.dst] 73)).alloc (.cells #[.int .i64 b.src, .int .i64 b.lab, .int .i64 b.dst] 73) := ⟨_, rfl⟩
 have HB : Hid (Below w.heap.size w W) := by
  unfold Hid
  rw [hW]
  exact ((Below.refl _ _).alloc (Nat.le_refl _) _).alloc (by simp) _
 have a0 : W.cell? ⟨w.heap.size, 0, none⟩ = some (.int .i64 a.src) := by rw [hW]; simp
 have a1 : W.cell? ⟨w.heap.size, 1, none⟩ = some (.int .i64 a.lab) := by rw [hW]; simp
 have a2 : W.cell? ⟨w.heap.size, 2, none⟩ = some (.int .i64 a.dst) := by rw [hW]; simp
 have b0 : W.cell? ⟨w.heap.size + 1, 0, none⟩ = some (.int .i64 b.src) := by rw [hW]; simp
 have b1 : W.cell? ⟨w.heap.size + 1, 1, none⟩ = some (.int .i64 b.lab) := by rw [hW]; simp
 have b2 : W.cell? ⟨w.heap.size + 1, 2, none⟩ = some (.int .i64 b.dst) := by rw [hW]; simp
 go_enter Tryz.func56, Tryz.ntmps56
 go_wp2
 rw [← hW]
 clear hW
 go_still_tail 15, (by kernel_rfl)
 still_call (still_same (Compare_any _ _ _))
 repeat still_step
 still_call (still_same (Compare_any _ _ _))
 repeat still_step
 still_call (still_same (Compare_any _ _ _))
 repeat still_step
 refine wpStill_nil ?_
 change wpList _ _ _ _ _ W.drew
 obtain ⟨W2, hW2⟩ : ∃ W2, W2 = W.drew := ⟨_, rfl⟩
 rw [← hW2]
 have HB2 : Hid (Below w.heap.size w W2) := by
  unfold Hid
  rw [hW2]
  exact HB.out.drew
 clear hW2 a0 a1 a2 b0 b1 b2
 have HS : Hid (SliceK 1 encI 0 (W2.alloc (.cells #[.int .i64 (cmpI a.src b.src), .int .i64 (cmpI a.lab b.lab), .int .i64 (cmpI a.dst b.dst)] 3)) (.slice (some ⟨W2.heap.size, 0, none⟩) 3 3) [cmpI a.src b.src, cmpI a.lab b.lab, cmpI a.dst b.dst]) := by
  have := World.ownsRow_lit (base := 0) (e := 3) (size := 1) W2 #[.int .i64 (cmpI a.src b.src), .int .i64 (cmpI a.lab b.lab), .int .i64 (cmpI a.dst b.dst)] 3 (Nat.zero_le _) (by decide) (by simp)
  exact SliceK.of_owns (e := 3) encI_len rfl (by rw [flat_encI]; simpa using this)
 have HB3 : Hid (Below w.heap.size w (W2.alloc (.cells #[.int .i64 (cmpI a.src b.src), .int .i64 (cmpI a.lab b.lab), .int .i64 (cmpI a.dst b.dst)] 3))) := HB2.out.alloc HB2.out.size _
 go_wp2_with fail
 refine (Or_any 0 _ _ _ HS.out).mono ?_
 rintro e w' ⟨rfl, rfl⟩
 go_wp2_with fail
 go_ret
 exact ⟨rfl, HB3.out⟩

end Go.Proofs.YtaabkeejbhdenaaGreatDoor

namespace Go.Proofs.YtaabkeejbhdenaaGreatDoor
open Go Go.RowKit

/-- A list that has just the members P, ascending. -/
structure IsSet (P : Int → Prop) (l : List Int) : Prop where
 mem : ∀ x, x ∈ l ↔ P x
 asc : l.Pairwise (· < ·)

theorem asc_unique : ∀ (l m : List Int), l.Pairwise (· < ·) → m.Pairwise (· < ·) → (∀ x, x ∈ l ↔ x ∈ m) → l = m
 | [], [], _, _, _ => rfl
 | [], b :: m, _, _, h => by have := (h b).2 (by simp); simp at this
 | a :: l, [], _, _, h => by have := (h a).1 (by simp); simp at this
 | a :: l, b :: m, hl, hm, h => by
  rw [List.pairwise_cons] at hl hm
  have e : a = b := by
   have h1 := (h a).1 (by simp)
   have h2 := (h b).2 (by simp)
   rw [List.mem_cons] at h1 h2
   rcases h1 with h1 | h1
   ·exact h1
   ·rcases h2 with h2 | h2
    ·exact h2.symm
    ·have := hm.1 a h1
     have := hl.1 b h2
     omega
  subst e
  rw [asc_unique l m hl.2 hm.2 fun x => ?_]
  constructor
  ·intro hx
   have h1 := (h x).1 (by simp [hx])
   rw [List.mem_cons] at h1
   rcases h1 with h1 | h1
   ·have := hl.1 x hx; omega
   ·exact h1
  ·intro hx
   have h1 := (h x).2 (by simp [hx])
   rw [List.mem_cons] at h1
   rcases h1 with h1 | h1
   ·have := hm.1 x hx; omega
   ·exact h1
theorem IsSet.unique {P : Int → Prop} {l m : List Int} (hl : IsSet P l) (hm : IsSet P m) : l = m :=
 asc_unique l m hl.asc hm.asc fun x => (hl.mem x).trans (hm.mem x).symm
theorem IsSet.congr {P Q : Int → Prop} {l : List Int} (hl : IsSet P l) (h : ∀ x, P x ↔ Q x) : IsSet Q l := ⟨fun x => (hl.mem x).trans (h x), hl.asc⟩

noncomputable section
/-- The numbers below n with P, ascending. -/
def setL (n : Int) (P : Int → Prop) : List Int := ((List.range n.toNat).map fun (i : Nat) => (i : Int)).filter fun x => @decide (P x) (Classical.propDecidable _)
theorem setL_is {n : Int} {P : Int → Prop} (h : ∀ x, P x → 0 ≤ x ∧ x < n) : IsSet P (setL n P) where
 mem x := by
  unfold setL
  rw [List.mem_filter, List.mem_map]
  constructor
  ·intro hx
   exact @of_decide_eq_true _ (Classical.propDecidable _) hx.2
  ·intro hx
   have := h x hx
   exact ⟨⟨x.toNat, List.mem_range.2 (by omega), by omega⟩, @decide_eq_true _ (Classical.propDecidable _) hx⟩
 asc := by
  unfold setL
  refine List.Pairwise.filter _ ?_
  rw [List.pairwise_map]
  exact List.Pairwise.imp (fun h => by omega) List.pairwise_lt_range
end

/-- Internal edges lead from a to b. -/
inductive TauStar (t : Lts) (a : Int) : Int → Prop
 | refl : TauStar t a a
 | step {b : Int} (h : TauStar t a b) (e : Edge) (he : e ∈ t.edges) (hl : e.lab = 0) (hs : e.src = b) : TauStar t a e.dst
/-- What internal edges reach from S. -/
def clos (t : Lts) (S : Int → Prop) (x : Int) : Prop := ∃ a, S a ∧ TauStar t a x
theorem clos.base {t : Lts} {S : Int → Prop} {x : Int} (h : S x) : clos t S x := ⟨x, h, .refl⟩
theorem clos.next {t : Lts} {S : Int → Prop} {e : Edge} (h : clos t S e.src) (he : e ∈ t.edges) (hl : e.lab = 0) : clos t S e.dst := by
 obtain ⟨a, ha, hs⟩ := h
 exact ⟨a, ha, .step hs e he hl rfl⟩
theorem clos.least {t : Lts} {S Q : Int → Prop} (h1 : ∀ x, S x → Q x) (h2 : ∀ e ∈ t.edges, e.lab = 0 → Q e.src → Q e.dst) {x : Int} (h : clos t S x) : Q x := by
 obtain ⟨a, ha, hs⟩ := h
 induction hs with
 | refl => exact h1 a ha
 | step _ e he hl hs ih => exact h2 e he hl (hs ▸ ih)
theorem clos.inside {t : Lts} (hv : Valid t) {S : Int → Prop} (h : ∀ x, S x → 0 ≤ x ∧ x < t.states) (x : Int) (hx : clos t S x) : 0 ≤ x ∧ x < t.states :=
 hx.least (Q := fun x => 0 ≤ x ∧ x < t.states) h fun e he _ _ => by
  obtain ⟨i, hi, rfl⟩ := List.mem_iff_getElem.1 he
  have := hv.edge i hi
  exact ⟨this.d0, this.d1⟩

/-- Behind a label's number k, from the states in l. -/
def behindP (t : Lts) (l : List Int) (k : Int) (x : Int) : Prop := ∃ e ∈ t.edges, e.lab = k ∧ e.src ∈ l ∧ e.dst = x
theorem behindP_in {t : Lts} (hv : Valid t) {l : List Int} {k x : Int} (h : behindP t l k x) : 0 ≤ x ∧ x < t.states := by
 obtain ⟨e, he, -, -, rfl⟩ := h
 obtain ⟨i, hi, rfl⟩ := List.mem_iff_getElem.1 he
 exact ⟨(hv.edge i hi).d0, (hv.edge i hi).d1⟩
def firstP (t : Lts) : Int → Prop := clos t fun x => x = t.initial
def nextP (t : Lts) (l : List Int) (k : Int) : Int → Prop := clos t (behindP t l k)

noncomputable section
def firstS (t : Lts) : List Int := setL t.states (firstP t)
def nextS (t : Lts) (l : List Int) (k : Int) : List Int := setL t.states (nextP t l k)
theorem firstS_is {t : Lts} (hv : Valid t) : IsSet (firstP t) (firstS t) := setL_is (clos.inside hv fun x hx => by subst hx; exact ⟨hv.in0, hv.in1⟩)
theorem nextS_is {t : Lts} (hv : Valid t) (l : List Int) (k : Int) : IsSet (nextP t l k) (nextS t l k) := setL_is (clos.inside hv fun _ hx => behindP_in hv hx)

structure DNet where
 rows : List (List Int)
 edges : List Edge

def dplace (rows : List (List Int)) (r : List Int) : Nat := rows.findIdx fun q => q == r
def dadd (rows : List (List Int)) (r : List Int) : List (List Int) := if dplace rows r < rows.length then rows else rows ++ [r]
/-- One label (its number k) of the row number i. -/
def dstep (t : Lts) (i : Nat) (cur : List Int) (st : DNet) (k : Nat) : DNet :=
 if nextS t cur (k + 1) = [] then st else ⟨dadd st.rows (nextS t cur (k + 1)), st.edges ++ [⟨(i : Int), (k : Int) + 1, (dplace st.rows (nextS t cur (k + 1)) : Int)⟩]⟩
/-- The first j labels behind tau. -/
def dmid (t : Lts) (i : Nat) (cur : List Int) (st : DNet) (j : Nat) : DNet := (List.range j).foldl (dstep t i cur) st
def drow (t : Lts) (i : Nat) (st : DNet) : DNet :=
 match st.rows[i]? with
 | none => st
 | some cur => dmid t i cur st (t.labels.length - 1)
def dAt (t : Lts) : Nat → DNet
 | 0 => ⟨[firstS t], []⟩
 | n + 1 => drow t n (dAt t n)
end

def DCome (t : Lts) (n : Nat) : Prop := ∀ k, k < n → k < (dAt t k).rows.length
def DFound (t : Lts) (st : DNet) : Prop := ∃ n, DCome t n ∧ dAt t n = st ∧ st.rows.length = n
def DSmall (st : DNet) : Prop := st.rows.length ≤ 40 ∧ st.edges.length ≤ 300
def DOk (t : Lts) (st : DNet) : Prop := DFound t st ∧ DSmall st
/-- Somewhere on the way the net is too large. -/
def DFull (t : Lts) : Prop := ∃ n j cur, DCome t n ∧ (dAt t n).rows[n]? = some cur ∧ j ≤ t.labels.length - 1 ∧ ¬ DSmall (dmid t n cur (dAt t n) j)

/-- A net within another one. -/
structure DLe (a b : DNet) : Prop where
 rows : ∃ r, b.rows = a.rows ++ r
 edges : ∃ r, b.edges = a.edges ++ r
theorem DLe.refl (a : DNet) : DLe a a := ⟨⟨[], by simp⟩, ⟨[], by simp⟩⟩
theorem DLe.trans {a b c : DNet} (h : DLe a b) (k : DLe b c) : DLe a c := by
 obtain ⟨⟨r, h1⟩, ⟨s, h2⟩⟩ := h
 obtain ⟨⟨u, h3⟩, ⟨v, h4⟩⟩ := k
 exact ⟨⟨r ++ u, by rw [h3, h1, List.append_assoc]⟩, ⟨s ++ v, by rw [h4, h2, List.append_assoc]⟩⟩
theorem DLe.small {a b : DNet} (h : DLe a b) (hb : DSmall b) : DSmall a := by
 obtain ⟨⟨r, h1⟩, ⟨s, h2⟩⟩ := h
 unfold DSmall at *
 rw [h1, h2, List.length_append, List.length_append] at hb
 omega
theorem dstep_le (t : Lts) (i : Nat) (cur : List Int) (st : DNet) (k : Nat) : DLe st (dstep t i cur st k) := by
 unfold dstep
 split
 ·exact DLe.refl st
 ·refine ⟨?_, ⟨_, rfl⟩⟩
  unfold dadd
  split
  ·exact ⟨[], by simp⟩
  ·exact ⟨_, rfl⟩
theorem dmid_succ (t : Lts) (i : Nat) (cur : List Int) (st : DNet) (j : Nat) : dmid t i cur st (j + 1) = dstep t i cur (dmid t i cur st j) j := by
 unfold dmid
 rw [List.range_succ, List.foldl_append]
 rfl
theorem dmid_le (t : Lts) (i : Nat) (cur : List Int) (st : DNet) (j : Nat) : ∀ d, DLe (dmid t i cur st j) (dmid t i cur st (j + d))
 | 0 => DLe.refl _
 | d + 1 => by
  rw [← Nat.add_assoc, dmid_succ]
  exact (dmid_le t i cur st j d).trans (dstep_le t i cur _ _)
theorem drow_le (t : Lts) (i : Nat) (st : DNet) : DLe st (drow t i st) := by
 unfold drow
 split
 ·exact DLe.refl st
 ·next cur _ =>
  have := dmid_le t i cur st 0 (t.labels.length - 1)
  rw [Nat.zero_add] at this
  exact this
theorem dAt_le (t : Lts) (n : Nat) : ∀ d, DLe (dAt t n) (dAt t (n + d))
 | 0 => DLe.refl _
 | d + 1 => by
  rw [← Nat.add_assoc]
  exact (dAt_le t n d).trans (drow_le t _ _)

theorem DFound.unique {t : Lts} {a b : DNet} (ha : DFound t a) (hb : DFound t b) : a = b := by
 obtain ⟨m, hm, em, lm⟩ := ha
 obtain ⟨n, hn, en, ln⟩ := hb
 rcases Nat.lt_trichotomy m n with h | h | h
 ·have := hn m h
  rw [em] at this
  omega
 ·subst h
  exact em.symm.trans en
 ·have := hm n h
  rw [en] at this
  omega
theorem DOk.not_full {t : Lts} {st : DNet} (h : DOk t st) : ¬ DFull t := by
 rintro ⟨n, j, cur, hc, hcur, hj, hs⟩
 obtain ⟨⟨m, hm, em, lm⟩, hsm⟩ := h
 have hn := (List.getElem?_eq_some_iff.1 hcur).1
 rcases Nat.lt_or_ge n m with hlt | hge
 ·refine hs (DLe.small ?_ hsm)
  have h1 := dmid_le t n cur (dAt t n) j (t.labels.length - 1 - j)
  rw [show j + (t.labels.length - 1 - j) = t.labels.length - 1 from by omega] at h1
  have h2 : dmid t n cur (dAt t n) (t.labels.length - 1) = dAt t (n + 1) := by
   rw [dAt]
   unfold drow
   rw [hcur]
  rw [h2] at h1
  have h3 := dAt_le t (n + 1) (m - (n + 1))
  rw [show n + 1 + (m - (n + 1)) = m from by omega, em] at h3
  exact h1.trans h3
 ·rcases Nat.lt_or_ge m n with h2 | h2
  ·have := hc m h2
   rw [em] at this
   omega
  ·obtain rfl : n = m := by omega
   rw [em] at hn
   omega

/-- Up to the row number n, all small: the search goes on, or it has found all, or it is too large. -/
theorem DCome.succ {t : Lts} {n : Nat} (h : DCome t n) (hn : n < (dAt t n).rows.length) : DCome t (n + 1) := by
 intro k hk
 by_cases e : k = n
 ·subst e; exact hn
 ·exact h k (by omega)
theorem DCome.zero (t : Lts) : DCome t 0 := fun k h => by omega

theorem dplace_lt {rows : List (List Int)} {q : List Int} : dplace rows q < rows.length ↔ q ∈ rows := by
 unfold dplace
 rw [List.findIdx_lt_length]
 simp
theorem dplace_get {rows : List (List Int)} {q : List Int} (h : dplace rows q < rows.length) : rows[dplace rows q] = q := by
 have := List.findIdx_getElem (p := fun q' => q' == q) (xs := rows) (w := h)
 exact eq_of_beq this
theorem dplace_le (rows : List (List Int)) (q : List Int) : dplace rows q ≤ rows.length := by unfold dplace; exact List.findIdx_le_length

/-! ### sweeps over the internal edges -/
/-- An internal edge as a pair (where it leads, where it begins); another edge says nothing. -/
def tauPair (e : Edge) : Nat × Nat := if e.lab = 0 then (e.dst.toNat, e.src.toNat) else (0, 0)
def tauPairs (t : Lts) : List (Nat × Nat) := t.edges.map tauPair
def markB (l : List Bool) (i : Nat) : Bool := l.getD i false
/-- The true places of a list of truth values. -/
def inL (l : List Bool) (x : Int) : Prop := 0 ≤ x ∧ l[x.toNat]? = some true

theorem co_clos {t : Lts} (hv : Valid t) {l : List Bool} {i : Nat} (h : Co (tauPairs t) (markB l) i) : clos t (inL l) (i : Int) := by
 induction h with
 | @here i h =>
  refine clos.base ⟨by omega, ?_⟩
  unfold markB at h
  rw [List.getD_eq_getElem?_getD] at h
  rw [Int.toNat_natCast]
  cases h2 : l[i]? with
  | none => rw [h2] at h; cases h
  | some b => rw [h2] at h; simp only [Option.getD_some] at h; rw [h]
 | @step a b he _ ih =>
  obtain ⟨e, hm, hp⟩ := List.mem_map.1 he
  unfold tauPair at hp
  split at hp
  ·next hl =>
   obtain ⟨j, hj, rfl⟩ := List.mem_iff_getElem.1 hm
   have hok := hv.edge j hj
   simp only [Prod.mk.injEq] at hp
   have h1 : ((a : Nat) : Int) = t.edges[j].dst := by have := hok.d0; omega
   have h2 : ((b : Nat) : Int) = t.edges[j].src := by have := hok.s0; omega
   rw [h1]
   rw [h2] at ih
   exact ih.next hm hl
  ·simp only [Prod.mk.injEq] at hp
   obtain ⟨rfl, rfl⟩ := hp
   exact ih
theorem clos_co {t : Lts} (hv : Valid t) {l : List Bool} {x : Int} (h : clos t (inL l) x) : 0 ≤ x ∧ Co (tauPairs t) (markB l) x.toNat := by
 refine h.least (Q := fun x => 0 ≤ x ∧ Co (tauPairs t) (markB l) x.toNat) ?_ ?_
 ·rintro y ⟨h0, h1⟩
  refine ⟨h0, .here ?_⟩
  unfold markB
  rw [List.getD_eq_getElem?_getD, h1]
  rfl
 ·intro e he hl ⟨_, h2⟩
  obtain ⟨j, hj, rfl⟩ := List.mem_iff_getElem.1 he
  refine ⟨(hv.edge j hj).d0, .step (b := t.edges[j].src.toNat) ?_ h2⟩
  refine List.mem_map.2 ⟨_, he, ?_⟩
  unfold tauPair
  rw [if_pos hl]
/-- At rest, the true places are what internal edges reach. -/
theorem rest_clos {t : Lts} (hv : Valid t) {l good : List Bool} (hc : CoOk (tauPairs t) (markB l) good) (hd : CoDone (tauPairs t) good) (x : Int) : inL good x ↔ clos t (inL l) x := by
 constructor
 ·rintro ⟨h0, h1⟩
  have := co_clos hv ((hc.iff hd x.toNat).1 h1)
  rw [Int.toNat_of_nonneg h0] at this
  exact this
 ·intro h
  obtain ⟨h0, h1⟩ := clos_co hv h
  exact ⟨h0, (hc.iff hd x.toNat).2 h1⟩
theorem markB_ok (t : Lts) (l : List Bool) : CoOk (tauPairs t) (markB l) l where
 sound i hi := .here (by unfold markB; rw [List.getD_eq_getElem?_getD, hi]; rfl)
 marked i hi := by
  unfold markB at hi
  rw [List.getD_eq_getElem?_getD] at hi
  cases h2 : l[i]? with
  | none => rw [h2] at hi; cases hi
  | some b => rw [h2] at hi; simp only [Option.getD_some] at hi; rw [hi]

end Go.Proofs.YtaabkeejbhdenaaGreatDoor

namespace Go.Proofs.YtaabkeejbhdenaaGreatDoor
open Go Go.RowKit

theorem compact_upto {α : Type} [Inhabited α] [DecidableEq α] (lt : α → α → Prop) (ht : ∀ a b c, lt a b → lt b c → lt a c) (d : Array α) (hs : ∀ i j, i < j → j < d.size → d[i]! = d[j]! ∨ lt d[i]! d[j]!) :
  ∀ m, m ≤ d.size → (Lib.compactUpTo d m).Pairwise lt ∧ ∀ x, x ∈ Lib.compactUpTo d m ↔ ∃ j, j < m ∧ d[j]! = x
 | 0, _ => ⟨by simp [Lib.compactUpTo], fun x => by simp [Lib.compactUpTo]⟩
 | m + 1, hm => by
  obtain ⟨h1, h2⟩ := compact_upto lt ht d hs m (by omega)
  rw [Lib.compactUpTo_succ]
  by_cases hk : Lib.keeps d m = true
  ·rw [if_pos hk]
   refine ⟨?_, fun x => ?_⟩
   ·rw [List.pairwise_append]
    refine ⟨h1, by simp, fun a ha b hb => ?_⟩
    rw [List.mem_singleton] at hb
    subst hb
    obtain ⟨j, hj, rfl⟩ := (h2 a).1 ha
    unfold Lib.keeps at hk
    rw [decide_eq_true_eq] at hk
    rcases hk with hk | hk
    ·omega
    ·have hl : lt d[m - 1]! d[m]! := by
      rcases hs (m - 1) m (by omega) (by omega) with e | e
      ·exact absurd e.symm hk
      ·exact e
     by_cases hjm : j = m - 1
     ·rw [hjm]; exact hl
     ·rcases hs j (m - 1) (by omega) (by omega) with e | e
      ·rw [e]; exact hl
      ·exact ht _ _ _ e hl
   ·rw [List.mem_append, h2, List.mem_singleton]
    constructor
    ·rintro (⟨j, hj, e⟩ | e)
     ·exact ⟨j, by omega, e⟩
     ·exact ⟨m, by omega, e.symm⟩
    ·rintro ⟨j, hj, e⟩
     by_cases hjm : j = m
     ·subst hjm; exact .inr e.symm
     ·exact .inl ⟨j, by omega, e⟩
  ·rw [if_neg hk, List.append_nil]
   refine ⟨h1, fun x => ?_⟩
   rw [h2]
   have hk' : m ≠ 0 ∧ d[m]! = d[m - 1]! := by
    unfold Lib.keeps at hk
    rw [decide_eq_true_eq, not_or, Classical.not_not] at hk
    exact hk
   constructor
   ·rintro ⟨j, hj, e⟩
    exact ⟨j, by omega, e⟩
   ·rintro ⟨j, hj, e⟩
    by_cases hjm : j = m
    ·subst hjm
     exact ⟨j - 1, by omega, by rw [← hk'.2]; exact e⟩
    ·exact ⟨j, by omega, e⟩
theorem compact_is {α : Type} [Inhabited α] [DecidableEq α] (lt : α → α → Prop) (ht : ∀ a b c, lt a b → lt b c → lt a c) (zs : List α) (hs : zs.Pairwise fun a b => a = b ∨ lt a b) :
  (Lib.compact zs).Pairwise lt ∧ ∀ x, x ∈ Lib.compact zs ↔ x ∈ zs := by
 have hp := List.pairwise_iff_getElem.1 hs
 have hg : ∀ i (h : i < zs.length), zs.toArray[i]! = zs[i] := fun i h => by
  rw [getElem!_pos zs.toArray i (by simpa using h)]
  simp
 obtain ⟨h1, h2⟩ := compact_upto lt ht zs.toArray (fun i j hij hj => by
  have hj' : j < zs.length := by simpa using hj
  rw [hg i (by omega), hg j hj']
  exact hp i j (by omega) hj' hij) zs.length (by simp)
 refine ⟨h1, fun x => ?_⟩
 unfold Lib.compact
 rw [h2, List.mem_iff_getElem]
 constructor
 ·rintro ⟨j, hj, e⟩
  exact ⟨j, hj, by rw [← hg j hj]; exact e⟩
 ·rintro ⟨j, hj, e⟩
  exact ⟨j, hj, by rw [hg j hj]; exact e⟩

/-- A list that is sorted in numbers, then its equal neighbours made one: the set's list. -/
theorem sort_compact_is (xs : List Int) : IsSet (fun x => x ∈ xs) (Lib.compact (xs.mergeSort fun x y => decide (x ≤ y))) := by
 have hs : (xs.mergeSort fun x y => decide (x ≤ y)).Pairwise fun a b => a = b ∨ a < b := by
  have := List.pairwise_mergeSort (le := fun (x y : Int) => decide (x ≤ y)) (fun a b c h1 h2 => by simp at *; omega) (fun a b => by simp; omega) xs
  exact this.imp fun h => by simp at h; omega
 obtain ⟨h1, h2⟩ := compact_is (fun a b : Int => a < b) (fun a b c h k => by omega) _ hs
 exact ⟨fun x => (h2 x).trans List.mem_mergeSort, h1⟩
/-- A list without repeats, sorted: the set's list. -/
theorem sort_nodup_is (xs : List Int) (hn : xs.Nodup) : IsSet (fun x => x ∈ xs) (xs.mergeSort fun x y => decide (x ≤ y)) := by
 refine ⟨fun x => List.mem_mergeSort, ?_⟩
 have h1 := List.pairwise_mergeSort (le := fun (x y : Int) => decide (x ≤ y)) (fun a b c h1 h2 => by simp at *; omega) (fun a b => by simp; omega) xs
 have h2 : (xs.mergeSort fun x y => decide (x ≤ y)).Nodup := (List.mergeSort_perm xs _).nodup_iff.2 hn
 exact (h1.and h2).imp fun ⟨h, k⟩ => by simp at h; omega

/-- Strictly ascending lists with the same members are one list. -/
theorem rise_unique {α : Type} (lt : α → α → Prop) (hi : ∀ a, ¬ lt a a) (ha : ∀ a b, lt a b → ¬ lt b a) : ∀ (l m : List α), l.Pairwise lt → m.Pairwise lt → (∀ x, x ∈ l ↔ x ∈ m) → l = m
 | [], [], _, _, _ => rfl
 | [], b :: m, _, _, h => by have := (h b).2 (by simp); simp at this
 | a :: l, [], _, _, h => by have := (h a).1 (by simp); simp at this
 | a :: l, b :: m, hl, hm, h => by
  rw [List.pairwise_cons] at hl hm
  have e : a = b := by
   have h1 := (h a).1 (by simp)
   have h2 := (h b).2 (by simp)
   rw [List.mem_cons] at h1 h2
   rcases h1 with h1 | h1
   ·exact h1
   ·rcases h2 with h2 | h2
    ·exact h2.symm
    ·exact absurd (hl.1 b h2) (ha _ _ (hm.1 a h1))
  subst e
  rw [rise_unique lt hi ha l m hl.2 hm.2 fun x => ?_]
  constructor
  ·intro hx
   have h1 := (h x).1 (by simp [hx])
   rw [List.mem_cons] at h1
   rcases h1 with h1 | h1
   ·subst h1; exact absurd (hl.1 x hx) (hi x)
   ·exact h1
  ·intro hx
   have h1 := (h x).2 (by simp [hx])
   rw [List.mem_cons] at h1
   rcases h1 with h1 | h1
   ·subst h1; exact absurd (hm.1 x hx) (hi x)
   ·exact h1

end Go.Proofs.YtaabkeejbhdenaaGreatDoor
