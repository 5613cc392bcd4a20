/-
  The greatest simulation, and the edges that are no little brothers. Plain.
  Plain laws: the order of texts; in a deterministic system at most one edge leaves a state with a label's text.
  A plant, a supervisor and a requirement: the triples of states that are reached, those from which a marked one is reached, what makes a plant valid, when a supervisor controls it; how a plant lies in memory. Plain laws; no program in sight.
  What the implementation's functions on texts compute.
  What the implementation's isState and compareEdges compute.
  Sets of states as ascending lists; what internal edges reach; the deterministic system of a system, found row for row. Plain definitions; no program in sight.
  Lists in ascending order: one list for each set; what is left of a sorted list when equal neighbours are made one.
-/
import Derived.Test.YtdkbbknhighebaaGreatDoorL1
import Derived.StillTailTactics
import Derived.Lib.SlicesCompact
import Derived.Lib.RowBridge
namespace Go.Proofs.YtdkbbknhighebaaGreatDoor
open Go Go.RowKit


/-- A set of pairs of states. -/
abbrev PairSet := Int → Int → Bool
/-- Each edge from x is answered from y by one of the same label, within N. -/
def ansG (a b : Lts) (N : PairSet) (x y : Int) : Bool :=
 a.edges.all fun e => !(e.src == x) || b.edges.any fun f => f.src == y && ((labAt b f).toList == (labAt a e).toList) && N e.dst f.dst
theorem ansG_mono {a b : Lts} {N M : PairSet} (h : ∀ x y, N x y = true → M x y = true) {x y : Int} (hn : ansG a b N x y = true) : ansG a b M x y = true := by
 unfold ansG at *
 rw [List.all_eq_true] at *
 intro e he
 have h1 := hn e he
 rw [Bool.or_eq_true] at *
 rcases h1 with h1 | h1
 ·exact .inl h1
 ·refine .inr ?_
  rw [List.any_eq_true] at *
  obtain ⟨f, hf, h2⟩ := h1
  refine ⟨f, hf, ?_⟩
  rw [Bool.and_eq_true, Bool.and_eq_true] at *
  exact ⟨h2.1, h _ _ h2.2⟩
/-- All pairs of states. -/
def allG (a b : Lts) : PairSet := fun x y => decide (0 ≤ x) && decide (x < a.states) && decide (0 ≤ y) && decide (y < b.states)
theorem allG_iff {a b : Lts} {x y : Int} : allG a b x y = true ↔ (0 ≤ x ∧ x < a.states) ∧ 0 ≤ y ∧ y < b.states := by
 unfold allG
 simp only [Bool.and_eq_true, decide_eq_true_eq]
 constructor
 ·rintro ⟨⟨⟨h1, h2⟩, h3⟩, h4⟩; exact ⟨⟨h1, h2⟩, h3, h4⟩
 ·rintro ⟨⟨h1, h2⟩, h3, h4⟩; exact ⟨⟨⟨h1, h2⟩, h3⟩, h4⟩
/-- A simulation within a start. -/
structure IsSim (a b : Lts) (st N : PairSet) : Prop where
 low : ∀ x y, N x y = true → st x y = true
 ans : ∀ x y, N x y = true → ansG a b N x y = true
/-- The greatest one. -/
structure Great (a b : Lts) (st N : PairSet) : Prop where
 sim : IsSim a b st N
 all : ∀ M, IsSim a b st M → ∀ x y, M x y = true → N x y = true
/-- A little brother: another edge of the same state and label leads strictly higher. -/
def brother (t : Lts) (N : PairSet) (e : Edge) : Bool := t.edges.any fun o => o.src == e.src && o.lab == e.lab && N e.dst o.dst && !(N o.dst e.dst)
def keptG (t : Lts) (N : PairSet) : List Edge := t.edges.filter fun e => !(brother t N e)
theorem keptG_le (t : Lts) (N : PairSet) : (keptG t N).length ≤ t.edges.length := List.length_filter_le _ _

end Go.Proofs.YtdkbbknhighebaaGreatDoor

namespace Go.Proofs.YtdkbbknhighebaaGreatDoor
open Go Go.RowKit

theorem less_lt : ∀ (x y : List UInt8), Op.bytesLess x y = decide (x < y)
 | [], [] => by simp [Op.bytesLess]
 | _ :: _, [] => by simp [Op.bytesLess]
 | [], _ :: _ => by simp [Op.bytesLess]
 | a :: x, b :: y => by
  rw [Op.bytesLess, less_lt x y]
  simp only [List.cons_lt_cons_iff]
  by_cases h1 : a < b <;> by_cases h2 : a = b <;> by_cases h3 : x < y <;> simp [h1, h2, h3]

theorem less_trans {x y z : List UInt8} (h1 : Op.bytesLess x y = true) (h2 : Op.bytesLess y z = true) : Op.bytesLess x z = true := by
 rw [less_lt, decide_eq_true_eq] at *
 exact List.lt_trans h1 h2
theorem less_irrefl (x : List UInt8) : Op.bytesLess x x = false := by
 rw [less_lt, decide_eq_false_iff_not]
 exact List.lt_irrefl x
theorem less_leq (x y : List UInt8) : (Op.bytesLess x y || x == y) = !Op.bytesLess y x := by
 rw [less_lt, less_lt]
 by_cases h : y < x
 ·have h1 : ¬ x < y := fun h' => List.lt_irrefl x (List.lt_trans h' h)
  have h2 : x ≠ y := fun e => List.lt_irrefl x (by rw [e] at h ⊢; exact h)
  simp [h, h1, h2]
 ·by_cases h1 : x < y
  ·simp [h, h1]
  ·have e : x = y := List.le_antisymm (List.not_lt.1 h) (List.not_lt.1 h1)
   simp [e]

theorem labels_less {ls : List ByteArray} (h : LabelsOk ls) (i j : Nat) (hi : 1 ≤ i) (hij : i < j) (hj : j < ls.length) : strLess ls[i] ls[j] = true := by
 induction j with
 | zero => omega
 | succ j ih =>
  rcases Nat.lt_or_ge i j with hlt | hge
  ·exact less_trans (ih hlt (by omega)) (h.rise j hj (by omega))
  ·obtain rfl : i = j := by omega
   exact h.rise i hj hi
theorem labels_inj {ls : List ByteArray} (h : LabelsOk ls) (i j : Nat) (hi : i < ls.length) (hj : j < ls.length) (e : ls[i].toList = ls[j].toList) : i = j := by
 have key : ∀ i j (hi : i < ls.length) (hj : j < ls.length), ls[i].toList = ls[j].toList → ¬ i < j := by
  intro i j hi hj e hlt
  by_cases h0 : i = 0
  ·subst h0
   exact h.other j hj (by omega) (by rw [← e]; exact h.first hi)
  ·have := labels_less h i j (by omega) hlt hj
   unfold strLess at this
   rw [e, less_irrefl] at this
   cases this
 rcases Nat.lt_trichotomy i j with hlt | heq | hgt
 ·exact absurd hlt (key i j hi hj e)
 ·exact heq
 ·exact absurd hgt (key j i hj hi e.symm)

theorem labAt_idx {t : Lts} {e : Edge} (h : EdgeOk t e) : ∃ hlt : e.lab.toNat < t.labels.length, labAt t e = t.labels[e.lab.toNat] := by
 have h0 := h.l0
 have h1 := h.l1
 have hlt : e.lab.toNat < t.labels.length := by omega
 exact ⟨hlt, by unfold labAt; rw [List.getD_eq_getElem?_getD, List.getElem?_eq_getElem hlt]; rfl⟩

/-- The states behind the edges that a label's text takes. -/
def behind (p : Lts) (q : Int) (l : ByteArray) : List Int := (p.edges.filter (hitB p q l)).map Edge.dst
end Go.Proofs.YtdkbbknhighebaaGreatDoor

namespace Go.Proofs.YtdkbbknhighebaaGreatDoor
open Go Go.RowKit

/-- Numbers below n, no two the same: at most n. -/
theorem nodup_lt : ∀ (n : Nat) (l : List Nat), l.Nodup → (∀ x ∈ l, x < n) → l.length ≤ n
 | 0, l, _, h => by
  cases l with
  | nil => simp
  | cons a r => exact absurd (h a (by simp)) (by omega)
 | n + 1, l, hd, h => by
  have h1 := nodup_lt n (l.filter fun x => x != n) (hd.filter _) (fun x hx => by
   rw [List.mem_filter] at hx
   have := h x hx.1
   have h2 : x ≠ n := by simpa using hx.2
   omega)
  have h2 : l.length ≤ (l.filter fun x => x != n).length + 1 := by
   clear h1 h
   induction l with
   | nil => simp
   | cons a r ih =>
    rw [List.nodup_cons] at hd
    by_cases e : a = n
    ·subst e
     have : r.filter (fun x => x != a) = r := by
      rw [List.filter_eq_self]
      intro x hx
      have : x ≠ a := fun e => hd.1 (e ▸ hx)
      simpa using this
     simp [this]
    ·have := ih hd.2
     simp [e]
     omega
  omega

/-! The search over triples, edge for edge: how far it has come, and what holds there. Plain laws. -/

section
variable {p s r : Lts} {ctl : ByteArray → Bool}

end


end Go.Proofs.YtdkbbknhighebaaGreatDoor

namespace Go.Proofs.YtdkbbknhighebaaGreatDoor
open Go Go.RowKit


theorem isDigit_any (c : UInt8) (w : World) : Calls Tryz.prog 159 #[.int .u8 (c.toNat : Int)] w fun e w' => e = .returned (.bool (digit c)) ∧ w = w' := by
 by_cases h : 48 ≤ (c.toNat : Int)
 ·have hf : Hid (digit c = decide ((c.toNat : Int) ≤ 57)) := by unfold Hid digit; rw [decide_eq_true h, Bool.true_and]
  go_enter Tryz.func159, Tryz.ntmps159
  go_wp2
  go_ret
  exact ⟨ret_bool hf.out.symm, rfl⟩
 ·have hf : Hid (digit c = false) := by unfold Hid digit; rw [decide_eq_false h, Bool.false_and]
  go_enter Tryz.func159, Tryz.ntmps159
  go_wp2
  go_ret
  exact ⟨ret_bool hf.out.symm, rfl⟩

theorem isName_all {s : ByteArray} (h0 : 0 < s.size) (hb : small s[0] = true) (ha : ∀ j (h : j < s.size), okc s[j] = true) : isName s.data.toList = decide ((s.size : Int) ≤ 10) := by
 by_cases h : 10 < s.size
 ·rw [isName_long (by rw [len_data]; exact h), decide_eq_false (by omega)]
 ·rw [isName_good h0 h hb ha, decide_eq_true (by omega)]

set_option maxHeartbeats 1000000 in
theorem IsName_any (s : ByteArray) (w : World) (hs : s.size ≤ 1073741824) : Calls Tryz.prog 129 #[.string s] w fun e w' => e = .returned (.bool (isName s.data.toList)) ∧ w = w' := by
 go_enter Tryz.func129, Tryz.ntmps129
 go_wp2_with fail
 go_loop [7] (fun i => ∃ k : Nat, k ≤ s.size ∧ i = .int .i64 k ∧ (∀ j (h : j < s.size), j < k → okc s[j] = true) ∧ ∀ h : 0 < s.size, 0 < k → small s[0] = true) (fun i => s.size - (intOf i).toNat)
 case atStart => exact ⟨0, Nat.zero_le _, rfl, (fun _ _ h => by omega), fun _ h => by omega⟩
 case round =>
  obtain ⟨k, hk, rfl, ha, hs0⟩ := hrel
  have HA := Lib.hid ha
  have HS := Lib.hid hs0
  clear ha hs0
  by_cases hlt : k < s.size
  ·have hc : ∃ b, small s[k] = b := ⟨_, rfl⟩
   obtain ⟨b, hb⟩ := hc
   have HB := Lib.hid hb
   unfold small at hb
   have hcs : b = true → (97 ≤ (s[k].toNat : Int) ∧ (s[k].toNat : Int) ≤ 122) := by rintro rfl; simpa using hb
   cases b
   ·clear hcs
    by_cases h1 : 97 ≤ (s[k].toNat : Int)
    ·have h2 : ¬ (s[k].toNat : Int) ≤ 122 := by simpa [h1] using hb
     clear hb
     by_cases hk0 : k = 0
     ·subst hk0
      have HF : Hid (isName s.data.toList = false) := isName_head hlt HB.out
      go_wp2_with fail
      go_ret
      exact ⟨ret_bool HF.out.symm, rfl⟩
     ·have hk1 : ((k : Int) == 0) = false := by rw [beq_eq_false_iff_ne]; omega
      obtain ⟨d, hd⟩ : ∃ b, digit s[k] = b := ⟨_, rfl⟩
      have HD := Lib.hid hd
      clear hd
      go_wp2_with fail
      refine (isDigit_any _ _).mono ?_
      rintro e w' ⟨rfl, rfl⟩
      rw [HD.out]
      cases d
      ·go_wp2_with fail
       go_ret
       exact ⟨ret_bool (isName_bad hlt HB.out HD.out).symm, rfl⟩
      ·go_wp2_with fail
       go_round
       case rel => exact ⟨k + 1, by omega, by go_num, (fun j h hj => by
        by_cases e : j = k
        ·subst e; simp [okc, HD.out]
        ·exact HA.out j h (by omega)), fun h _ => HS.out h (by omega)⟩
       case measure => simp [intOf]; omega
    ·clear hb
     by_cases hk0 : k = 0
     ·subst hk0
      have HF : Hid (isName s.data.toList = false) := isName_head hlt HB.out
      go_wp2_with fail
      go_ret
      exact ⟨ret_bool HF.out.symm, rfl⟩
     ·have hk1 : ((k : Int) == 0) = false := by rw [beq_eq_false_iff_ne]; omega
      obtain ⟨d, hd⟩ : ∃ b, digit s[k] = b := ⟨_, rfl⟩
      have HD := Lib.hid hd
      clear hd
      go_wp2_with fail
      refine (isDigit_any _ _).mono ?_
      rintro e w' ⟨rfl, rfl⟩
      rw [HD.out]
      cases d
      ·go_wp2_with fail
       go_ret
       exact ⟨ret_bool (isName_bad hlt HB.out HD.out).symm, rfl⟩
      ·go_wp2_with fail
       go_round
       case rel => exact ⟨k + 1, by omega, by go_num, (fun j h hj => by
        by_cases e : j = k
        ·subst e; simp [okc, HD.out]
        ·exact HA.out j h (by omega)), fun h _ => HS.out h (by omega)⟩
       case measure => simp [intOf]; omega
   ·obtain ⟨h1, h2⟩ := hcs rfl
    clear hcs hb
    go_wp2_with fail
    go_round
    case rel => exact ⟨k + 1, by omega, by go_num, (fun j h hj => by
     by_cases e : j = k
     ·subst e; simp [okc, HB.out]
     ·exact HA.out j h (by omega)), fun h _ => by
      by_cases e : k = 0
      ·subst e; exact HB.out
      ·exact HS.out h (by omega)⟩
    case measure => simp [intOf]; omega
  ·obtain rfl : k = s.size := by omega
   clear hlt hk
   by_cases h0 : 0 < s.size
   ·have HF : Hid (isName s.data.toList = decide ((s.size : Int) ≤ 10)) := isName_all h0 (HS.out h0 h0) (fun j h => HA.out j h h)
    have h01 : 1 ≤ (s.size : Int) := by omega
    go_wp2_with fail
    go_ret
    exact ⟨ret_bool HF.out.symm, rfl⟩
   ·have HF : Hid (isName s.data.toList = false) := by
     have : s.data.toList = [] := List.eq_nil_of_length_eq_zero (by rw [len_data]; omega)
     unfold Hid; rw [this]; rfl
    have h01 : ¬ 1 ≤ (s.size : Int) := by omega
    go_wp2_with fail
    go_ret
    exact ⟨ret_bool HF.out.symm, rfl⟩

theorem within_any (n lo hi : Int) (w : World) : Calls Tryz.prog 29 #[.int .i64 n, .int .i64 lo, .int .i64 hi] w fun e w' => e = .returned (.bool (decide (lo ≤ n) && decide (n ≤ hi))) ∧ w = w' := by
 by_cases h : lo ≤ n
 ·have hf : Hid ((decide (lo ≤ n) && decide (n ≤ hi)) = decide (n ≤ hi)) := by unfold Hid; rw [decide_eq_true h, Bool.true_and]
  go_enter Tryz.func29, Tryz.ntmps29
  go_wp2
  go_ret
  exact ⟨ret_bool hf.out.symm, rfl⟩
 ·have hf : Hid ((decide (lo ≤ n) && decide (n ≤ hi)) = false) := by unfold Hid; rw [decide_eq_false h, Bool.false_and]
  go_enter Tryz.func29, Tryz.ntmps29
  go_wp2
  go_ret
  exact ⟨ret_bool hf.out.symm, rfl⟩

theorem index_any (n m : Int) (w : World) (h1 : -9223372036854775807 ≤ m) (h2 : m ≤ 9223372036854775807) : Calls Tryz.prog 32 #[.int .i64 n, .int .i64 m] w fun e w' => e = .returned (.bool (decide (0 ≤ n) && decide (n ≤ m - 1))) ∧ w = w' := by
 go_enter Tryz.func32, Tryz.ntmps32
 go_wp2_with fail
 refine (within_any _ _ _ _).mono ?_
 rintro e w' ⟨rfl, rfl⟩
 go_wp2_with fail
 go_ret
 exact ⟨rfl, rfl⟩

theorem isValue_any (n : Int) (w : World) : Calls Tryz.prog 131 #[.int .i64 n] w fun e w' => e = .returned (.bool (decide (0 ≤ n) && decide (n ≤ 63))) ∧ w = w' := by
 go_enter Tryz.func131, Tryz.ntmps131
 go_wp2_with fail
 refine (within_any _ _ _ _).mono ?_
 rintro e w' ⟨rfl, rfl⟩
 go_wp2_with fail
 go_ret
 exact ⟨rfl, rfl⟩

theorem IsAction_any (s : ByteArray) (w : World) (hs : s.size ≤ 1073741824) : Calls Tryz.prog 104 #[.string s] w fun e w' => e = .returned (.bool (isAction s.data.toList)) ∧ w = w' := by
 have hc : ∃ b, isName s.data.toList = b := ⟨_, rfl⟩
 obtain ⟨b, hb⟩ := hc
 cases b
 ·have HF : Hid (isAction s.data.toList = false) := by unfold Hid isAction; rw [hb]; rfl
  have HB := Lib.hid hb
  clear hb
  go_enter Tryz.func104, Tryz.ntmps104
  go_wp2_with fail
  refine (IsName_any _ _ hs).mono ?_
  rintro e w' ⟨rfl, rfl⟩
  rw [HB.out]
  go_wp2_with fail
  go_ret
  exact ⟨ret_bool HF.out.symm, rfl⟩
 ·have HF : Hid (isAction s.data.toList = !(s.toList == tauL)) := by unfold Hid isAction; rw [hb, Lib.toList_data]; rfl
  have HB := Lib.hid hb
  clear hb
  go_enter Tryz.func104, Tryz.ntmps104
  go_wp2_with fail
  refine (IsName_any _ _ hs).mono ?_
  rintro e w' ⟨rfl, rfl⟩
  rw [HB.out]
  go_wp2_with fail
  go_ret
  exact ⟨ret_bool HF.out.symm, rfl⟩

end Go.Proofs.YtdkbbknhighebaaGreatDoor

namespace Go.Proofs.YtdkbbknhighebaaGreatDoor
open Go Go.RowKit


theorem isState_any (lv ev : Value) (s i k : Int) (w : World) (h1 : 1 ≤ s) (h2 : s ≤ 40) :
  Calls Tryz.prog 30 #[.agg #[.int .i64 s, .int .i64 i, lv, ev], .int .i64 k] w fun e w' => e = .returned (.bool (inB k 0 (s - 1))) ∧ Below w.heap.size w w' := by
 have HB : Hid (Below w.heap.size w (w.alloc (.cells #[.int .i64 s, .int .i64 i, lv, ev] 27))) := (Below.refl _ _).alloc (Nat.le_refl _) _
 go_enter Tryz.func30, Tryz.ntmps30
 go_wp2_with fail
 refine (within_any _ _ _ _).mono ?_
 rintro e w' ⟨rfl, rfl⟩
 go_wp2_with fail
 go_ret
 exact ⟨rfl, HB.out⟩

def cmpI (a b : Int) : Int := if a < b then -1 else if b < a then 1 else 0

theorem isNaN_any (a : Int) (w : World) : Calls Tryz.prog 81 #[.int .i64 a] w fun e w' => e = .returned (.bool false) ∧ w = w' := by
 go_enter Tryz.func81, Tryz.ntmps81
 go_wp2
 go_ret
 exact ⟨ret_bool (by simp), rfl⟩

theorem Compare_any (a b : Int) (w : World) : Calls Tryz.prog 61 #[.int .i64 a, .int .i64 b] w fun e w' => e = .returned (.int .i64 (cmpI a b)) ∧ w = w' := by
 by_cases h1 : a < b
 ·have HF : Hid (cmpI a b = -1) := by unfold Hid cmpI; rw [if_pos h1]
  go_enter Tryz.func61, Tryz.ntmps61
  go_wp2_with fail
  refine (isNaN_any _ _).mono ?_
  rintro e w' ⟨rfl, rfl⟩
  go_wp2_with fail
  refine (isNaN_any _ _).mono ?_
  rintro e w' ⟨rfl, rfl⟩
  go_wp2_with fail
  go_ret
  exact ⟨ret_int HF.out.symm, rfl⟩
 ·by_cases h2 : b < a
  ·have HF : Hid (cmpI a b = 1) := by unfold Hid cmpI; rw [if_neg h1, if_pos h2]
   go_enter Tryz.func61, Tryz.ntmps61
   go_wp2_with fail
   refine (isNaN_any _ _).mono ?_
   rintro e w' ⟨rfl, rfl⟩
   go_wp2_with fail
   refine (isNaN_any _ _).mono ?_
   rintro e w' ⟨rfl, rfl⟩
   go_wp2_with fail
   go_ret
   exact ⟨ret_int HF.out.symm, rfl⟩
  ·have HF : Hid (cmpI a b = 0) := by unfold Hid cmpI; rw [if_neg h1, if_neg h2]
   go_enter Tryz.func61, Tryz.ntmps61
   go_wp2_with fail
   refine (isNaN_any _ _).mono ?_
   rintro e w' ⟨rfl, rfl⟩
   go_wp2_with fail
   refine (isNaN_any _ _).mono ?_
   rintro e w' ⟨rfl, rfl⟩
   go_wp2_with fail
   go_ret
   exact ⟨ret_int HF.out.symm, rfl⟩

def orI (xs : List Int) : Int := (xs.find? fun x => x != 0).getD 0

theorem orI_hit {xs : List Int} {k : Nat} (h : k < xs.length) (hb : ∀ j (h : j < xs.length), j < k → xs[j] = 0) (hn : xs[k] ≠ 0) : orI xs = xs[k] := by
 unfold orI
 have : xs.find? (fun x => x != 0) = some xs[k] := by
  rw [List.find?_eq_some_iff_getElem]
  exact ⟨by simpa using hn, k, h, rfl, fun j hj => by simpa using hb j (by omega) hj⟩
 rw [this]; rfl
theorem orI_none {xs : List Int} (hb : ∀ j (h : j < xs.length), xs[j] = 0) : orI xs = 0 := by
 unfold orI
 have : xs.find? (fun x => x != 0) = none := by
  rw [List.find?_eq_none]
  intro x hx
  obtain ⟨j, hj, rfl⟩ := List.mem_iff_getElem.1 hx
  simpa using hb j hj
 rw [this]; rfl

theorem Or_any (lo : Nat) (v : Value) (xs : List Int) (w : World) (hv : SliceK 1 encI lo w v xs) :
  Calls Tryz.prog 60 #[v] w fun e w' => e = .returned (.int .i64 (orI xs)) ∧ w = w' := by
 obtain ⟨a, c, rfl, hcn, hcc, hrow⟩ := hv
 go_enter Tryz.func60, Tryz.ntmps60
 go_wp2_with fail
 go_loop [8] (fun i => ∃ k : Nat, k ≤ xs.length ∧ i = .int .i64 k ∧ ∀ j (h : j < xs.length), j < k → xs[j] = 0) (fun i => xs.length - (intOf i).toNat)
 case atStart => exact ⟨0, Nat.zero_le _, rfl, fun _ _ h => by omega⟩
 case round =>
  obtain ⟨k, hk, rfl, ha⟩ := hrel
  have HA := Lib.hid ha
  clear ha
  by_cases hlt : k < xs.length
  ·obtain ⟨b1, o1, rfl, -, hbs, c1⟩ := hrow.one hlt
   simp only [encI, List.getElem?_cons_zero] at c1
   clear hrow
   obtain ⟨x, hx⟩ : ∃ x, x = xs[k] := ⟨_, rfl⟩
   rw [← hx] at c1
   have HX := Lib.hid hx
   clear hx
   cases h0 : (x != 0)
   ·have h0' : x = 0 := by simpa using h0
    go_wp2_with fail
    go_round
    case rel => exact ⟨k + 1, by omega, by go_num, fun j h hj => by
     by_cases e : j = k
     ·subst e; rw [← HX.out]; exact h0'
     ·exact HA.out j h (by omega)⟩
    case measure => simp [intOf]; omega
   ·have hf : orI xs = x := by rw [HX.out]; exact orI_hit hlt HA.out (by rw [← HX.out]; simpa using h0)
    have HF := Lib.hid hf
    clear hf
    go_wp2_with fail
    go_ret
    exact ⟨ret_int HF.out.symm, rfl⟩
  ·clear hrow
   go_wp2_with fail
   go_ret
   exact ⟨ret_int (orI_none fun j h => HA.out j h (by omega)).symm, rfl⟩

def cmpE (a b : Edge) : Int := orI [cmpI a.src b.src, cmpI a.lab b.lab, cmpI a.dst b.dst]
theorem cmpE_less (a b : Edge) : decide (0 ≤ cmpE a b) = !edgeLess a b := by
 unfold cmpE orI edgeLess cmpI
 by_cases h1 : a.src < b.src
 ·have : a.src ≠ b.src := by omega
  simp [h1, this]
 ·by_cases h2 : b.src < a.src
  ·have : a.src ≠ b.src := by omega
   simp [h1, h2, this]
  ·have e : a.src = b.src := by omega
   by_cases h3 : a.lab < b.lab
   ·have : a.lab ≠ b.lab := by omega
    simp [h3, this, e]
   ·by_cases h4 : b.lab < a.lab
    ·have : a.lab ≠ b.lab := by omega
     simp [h3, h4, this, e]
    ·have e2 : a.lab = b.lab := by omega
     by_cases h5 : a.dst < b.dst
     ·simp [h5, e, e2]
     ·by_cases h6 : b.dst < a.dst
      ·simp [h5, h6, e, e2]
      ·simp [h5, h6, e, e2]

theorem still_same {P : Program} {f : FuncId} {args : Array Value} {w : World} {v : Value} (h : Calls P f args w fun e w' => e = .returned v ∧ w = w') : Calls P f args w fun e w' => e = .returned v ∧ w' = w :=
 h.mono fun _ _ ⟨he, hw⟩ => ⟨he, hw.symm⟩

set_option maxRecDepth 100000 in
theorem compareEdges_any (a b : Edge) (w : World) : Calls Tryz.prog 33 #[.agg #[.int .i64 a.src, .int .i64 a.lab, .int .i64 a.dst], .agg #[.int .i64 b.src, .int .i64 b.lab, .int .i64 b.dst]] w fun e w' => e = .returned (.int .i64 (cmpE a b)) ∧ Below w.heap.size w w' := by
 obtain ⟨W, hW⟩ : ∃ W, W = (w.alloc (.cells #[.int .i64 a.src, .int .i64 a.lab, .int .i64 a.dst] 47)).alloc (.cells #[.int .i64 b.src, .int .i64 b.lab, .int .i64 b.dst] 47) := ⟨_, rfl⟩
 have HB : Hid (Below w.heap.size w W) := by
  unfold Hid
  rw [hW]
  exact ((Below.refl _ _).alloc (Nat.le_refl _) _).alloc (by simp) _
 have a0 : W.cell? ⟨w.heap.size, 0, none⟩ = some (.int .i64 a.src) := by rw [hW]; simp
 have a1 : W.cell? ⟨w.heap.size, 1, none⟩ = some (.int .i64 a.lab) := by rw [hW]; simp
 have a2 : W.cell? ⟨w.heap.size, 2, none⟩ = some (.int .i64 a.dst) := by rw [hW]; simp
 have b0 : W.cell? ⟨w.heap.size + 1, 0, none⟩ = some (.int .i64 b.src) := by rw [hW]; simp
 have b1 : W.cell? ⟨w.heap.size + 1, 1, none⟩ = some (.int .i64 b.lab) := by rw [hW]; simp
 have b2 : W.cell? ⟨w.heap.size + 1, 2, none⟩ = some (.int .i64 b.dst) := by rw [hW]; simp
 go_enter Tryz.func33, Tryz.ntmps33
 go_wp2
 rw [← hW]
 clear hW
 go_still_tail 15, (by kernel_rfl)
 still_call (still_same (Compare_any _ _ _))
 repeat still_step
 still_call (still_same (Compare_any _ _ _))
 repeat still_step
 still_call (still_same (Compare_any _ _ _))
 repeat still_step
 refine wpStill_nil ?_
 change wpList _ _ _ _ _ W.drew
 obtain ⟨W2, hW2⟩ : ∃ W2, W2 = W.drew := ⟨_, rfl⟩
 rw [← hW2]
 have HB2 : Hid (Below w.heap.size w W2) := by
  unfold Hid
  rw [hW2]
  exact HB.out.drew
 clear hW2 a0 a1 a2 b0 b1 b2
 have HS : Hid (SliceK 1 encI 0 (W2.alloc (.cells #[.int .i64 (cmpI a.src b.src), .int .i64 (cmpI a.lab b.lab), .int .i64 (cmpI a.dst b.dst)] 3)) (.slice (some ⟨W2.heap.size, 0, none⟩) 3 3) [cmpI a.src b.src, cmpI a.lab b.lab, cmpI a.dst b.dst]) := by
  have := World.ownsRow_lit (base := 0) (e := 3) (size := 1) W2 #[.int .i64 (cmpI a.src b.src), .int .i64 (cmpI a.lab b.lab), .int .i64 (cmpI a.dst b.dst)] 3 (Nat.zero_le _) (by decide) (by simp)
  exact SliceK.of_owns (e := 3) encI_len rfl (by rw [flat_encI]; simpa using this)
 have HB3 : Hid (Below w.heap.size w (W2.alloc (.cells #[.int .i64 (cmpI a.src b.src), .int .i64 (cmpI a.lab b.lab), .int .i64 (cmpI a.dst b.dst)] 3))) := HB2.out.alloc HB2.out.size _
 go_wp2_with fail
 refine (Or_any 0 _ _ _ HS.out).mono ?_
 rintro e w' ⟨rfl, rfl⟩
 go_wp2_with fail
 go_ret
 exact ⟨rfl, HB3.out⟩

end Go.Proofs.YtdkbbknhighebaaGreatDoor

namespace Go.Proofs.YtdkbbknhighebaaGreatDoor
open Go Go.RowKit

/-- A list that has just the members P, ascending. -/
structure IsSet (P : Int → Prop) (l : List Int) : Prop where
 mem : ∀ x, x ∈ l ↔ P x
 asc : l.Pairwise (· < ·)

theorem IsSet.congr {P Q : Int → Prop} {l : List Int} (hl : IsSet P l) (h : ∀ x, P x ↔ Q x) : IsSet Q l := ⟨fun x => (hl.mem x).trans (h x), hl.asc⟩

noncomputable section
end

noncomputable section
end

end Go.Proofs.YtdkbbknhighebaaGreatDoor

namespace Go.Proofs.YtdkbbknhighebaaGreatDoor
open Go Go.RowKit

theorem compact_upto {α : Type} [Inhabited α] [DecidableEq α] (lt : α → α → Prop) (ht : ∀ a b c, lt a b → lt b c → lt a c) (d : Array α) (hs : ∀ i j, i < j → j < d.size → d[i]! = d[j]! ∨ lt d[i]! d[j]!) :
  ∀ m, m ≤ d.size → (Lib.compactUpTo d m).Pairwise lt ∧ ∀ x, x ∈ Lib.compactUpTo d m ↔ ∃ j, j < m ∧ d[j]! = x
 | 0, _ => ⟨by simp [Lib.compactUpTo], fun x => by simp [Lib.compactUpTo]⟩
 | m + 1, hm => by
  obtain ⟨h1, h2⟩ := compact_upto lt ht d hs m (by omega)
  rw [Lib.compactUpTo_succ]
  by_cases hk : Lib.keeps d m = true
  ·rw [if_pos hk]
   refine ⟨?_, fun x => ?_⟩
   ·rw [List.pairwise_append]
    refine ⟨h1, by simp, fun a ha b hb => ?_⟩
    rw [List.mem_singleton] at hb
    subst hb
    obtain ⟨j, hj, rfl⟩ := (h2 a).1 ha
    unfold Lib.keeps at hk
    rw [decide_eq_true_eq] at hk
    rcases hk with hk | hk
    ·omega
    ·have hl : lt d[m - 1]! d[m]! := by
      rcases hs (m - 1) m (by omega) (by omega) with e | e
      ·exact absurd e.symm hk
      ·exact e
     by_cases hjm : j = m - 1
     ·rw [hjm]; exact hl
     ·rcases hs j (m - 1) (by omega) (by omega) with e | e
      ·rw [e]; exact hl
      ·exact ht _ _ _ e hl
   ·rw [List.mem_append, h2, List.mem_singleton]
    constructor
    ·rintro (⟨j, hj, e⟩ | e)
     ·exact ⟨j, by omega, e⟩
     ·exact ⟨m, by omega, e.symm⟩
    ·rintro ⟨j, hj, e⟩
     by_cases hjm : j = m
     ·subst hjm; exact .inr e.symm
     ·exact .inl ⟨j, by omega, e⟩
  ·rw [if_neg hk, List.append_nil]
   refine ⟨h1, fun x => ?_⟩
   rw [h2]
   have hk' : m ≠ 0 ∧ d[m]! = d[m - 1]! := by
    unfold Lib.keeps at hk
    rw [decide_eq_true_eq, not_or, Classical.not_not] at hk
    exact hk
   constructor
   ·rintro ⟨j, hj, e⟩
    exact ⟨j, by omega, e⟩
   ·rintro ⟨j, hj, e⟩
    by_cases hjm : j = m
    ·subst hjm
     exact ⟨j - 1, by omega, by rw [← hk'.2]; exact e⟩
    ·exact ⟨j, by omega, e⟩
theorem compact_is {α : Type} [Inhabited α] [DecidableEq α] (lt : α → α → Prop) (ht : ∀ a b c, lt a b → lt b c → lt a c) (zs : List α) (hs : zs.Pairwise fun a b => a = b ∨ lt a b) :
  (Lib.compact zs).Pairwise lt ∧ ∀ x, x ∈ Lib.compact zs ↔ x ∈ zs := by
 have hp := List.pairwise_iff_getElem.1 hs
 have hg : ∀ i (h : i < zs.length), zs.toArray[i]! = zs[i] := fun i h => by
  rw [getElem!_pos zs.toArray i (by simpa using h)]
  simp
 obtain ⟨h1, h2⟩ := compact_upto lt ht zs.toArray (fun i j hij hj => by
  have hj' : j < zs.length := by simpa using hj
  rw [hg i (by omega), hg j hj']
  exact hp i j (by omega) hj' hij) zs.length (by simp)
 refine ⟨h1, fun x => ?_⟩
 unfold Lib.compact
 rw [h2, List.mem_iff_getElem]
 constructor
 ·rintro ⟨j, hj, e⟩
  exact ⟨j, hj, by rw [← hg j hj]; exact e⟩
 ·rintro ⟨j, hj, e⟩
  exact ⟨j, hj, by rw [hg j hj]; exact e⟩

/-- A list that is sorted in numbers, then its equal neighbours made one: the set's list. -/
theorem sort_compact_is (xs : List Int) : IsSet (fun x => x ∈ xs) (Lib.compact (xs.mergeSort fun x y => decide (x ≤ y))) := by
 have hs : (xs.mergeSort fun x y => decide (x ≤ y)).Pairwise fun a b => a = b ∨ a < b := by
  have := List.pairwise_mergeSort (le := fun (x y : Int) => decide (x ≤ y)) (fun a b c h1 h2 => by simp at *; omega) (fun a b => by simp; omega) xs
  exact this.imp fun h => by simp at h; omega
 obtain ⟨h1, h2⟩ := compact_is (fun a b : Int => a < b) (fun a b c h k => by omega) _ hs
 exact ⟨fun x => (h2 x).trans List.mem_mergeSort, h1⟩
/-- Strictly ascending lists with the same members are one list. -/
theorem rise_unique {α : Type} (lt : α → α → Prop) (hi : ∀ a, ¬ lt a a) (ha : ∀ a b, lt a b → ¬ lt b a) : ∀ (l m : List α), l.Pairwise lt → m.Pairwise lt → (∀ x, x ∈ l ↔ x ∈ m) → l = m
 | [], [], _, _, _ => rfl
 | [], b :: m, _, _, h => by have := (h b).2 (by simp); simp at this
 | a :: l, [], _, _, h => by have := (h a).1 (by simp); simp at this
 | a :: l, b :: m, hl, hm, h => by
  rw [List.pairwise_cons] at hl hm
  have e : a = b := by
   have h1 := (h a).1 (by simp)
   have h2 := (h b).2 (by simp)
   rw [List.mem_cons] at h1 h2
   rcases h1 with h1 | h1
   ·exact h1
   ·rcases h2 with h2 | h2
    ·exact h2.symm
    ·exact absurd (hl.1 b h2) (ha _ _ (hm.1 a h1))
  subst e
  rw [rise_unique lt hi ha l m hl.2 hm.2 fun x => ?_]
  constructor
  ·intro hx
   have h1 := (h x).1 (by simp [hx])
   rw [List.mem_cons] at h1
   rcases h1 with h1 | h1
   ·subst h1; exact absurd (hl.1 x hx) (hi x)
   ·exact h1
  ·intro hx
   have h1 := (h x).2 (by simp [hx])
   rw [List.mem_cons] at h1
   rcases h1 with h1 | h1
   ·subst h1; exact absurd (hm.1 x hx) (hi x)
   ·exact h1

end Go.Proofs.YtdkbbknhighebaaGreatDoor
