/-
  The traces of a deterministic system in the order found. Plain definitions; no program in sight.
  Lists in ascending order: one list for each set; what is left of a sorted list when equal neighbours are made one.
  The two comparisons that the implementation sorts by: labels (tau first), edges.
  The library's Sort, Compact and Clone at lists of numbers of the call's own.
  The library's sorts as lts calls them: labels sorted and made one, edges that stand in order already.
  Regions that draw their order, whose operations are quiet in a class of worlds, but for a tail in one forced order.
  The library's sort and Compact at edges that stand in strictly ascending order: nothing turns.
  What the implementation's labelsOf and arcs compute.
  A slice of slices of one-celled elements, all in memory of the call's own: a row more, a row that grows.
  What the library's functions on slices compute where the implementation's follow calls them.
  What the implementation's internal and visible compute.
-/
import Derived.Test.YtjghfgaincnegaaGreatDoorN7
import Derived.Lib.SlicesCompact
import Derived.Lib.RowBridge
import Derived.Test.YtjghfgaincnegaaGreatDoorN3
import Derived.Test.YtjghfgaincnegaaGreatDoorN4
import Derived.Lib.Bytealg
import Derived.Test.YtjghfgaincnegaaGreatDoorN6
import Derived.Sort.Grow
import Derived.Shelf.SlSortCmp.NoneTotal
import Derived.Test.YtjghfgaincnegaaGreatDoorN5
import Derived.Sort.OwnSortedInts
import Derived.Lib.OwnBridge
import Derived.Sort.OwnSorted
import Derived.BigQuiet
import Derived.Test.YtjghfgaincnegaaGreatDoorN1
import Derived.StillTail
import Derived.Laws.StructEq
import Derived.Deep.RegionHeld3
import Derived.Deep.AppendLies
import Derived.Maps.AppendAt
namespace Go.Proofs.YtjghfgaincnegaaGreatDoor
open Go Go.RowKit

/-- The edges from a state up to a label. -/
def outTo (d : Lts) (x : Int) (k : Nat) : List Edge := (outOf d x).filter fun e => decide (e.lab < (k : Int))
theorem outTo_all {d : Lts} {x : Int} (h : ∀ e ∈ d.edges, e.lab < (d.labels.length : Int)) : outTo d x d.labels.length = outOf d x := by
 unfold outTo
 rw [List.filter_eq_self]
 intro e he
 have := h e ((List.mem_filter.1 he).1)
 simpa using this
theorem outTo_one {d : Lts} {x : Int} (h : ∀ e ∈ d.edges, 1 ≤ e.lab) : outTo d x 1 = [] := by
 unfold outTo
 rw [List.filter_eq_nil_iff]
 intro e he
 have := h e ((List.mem_filter.1 he).1)
 simp
 omega
/-- In a list with ascending labels: what comes in with the next label. -/
theorem filter_next {k : Int} : ∀ {l : List Edge}, l.Pairwise (fun a b => a.lab < b.lab) → l.filter (fun e => decide (e.lab < k + 1)) = l.filter (fun e => decide (e.lab < k)) ++ (l.find? fun e => e.lab == k).toList
 | [], _ => rfl
 | a :: l, h => by
  rw [List.pairwise_cons] at h
  rcases Int.lt_trichotomy a.lab k with h1 | h1 | h1
  ·rw [List.filter_cons, if_pos (by simp; omega), List.filter_cons, if_pos (by simp; omega), List.find?_cons, filter_next h.2]
   have : (a.lab == k) = false := by rw [beq_eq_false_iff_ne]; omega
   rw [this]
   rfl
  ·have e1 : l.filter (fun e => decide (e.lab < k + 1)) = [] := by
    rw [List.filter_eq_nil_iff]
    intro e he
    have := h.1 e he
    simp
    omega
   have e2 : l.filter (fun e => decide (e.lab < k)) = [] := by
    rw [List.filter_eq_nil_iff]
    intro e he
    have := h.1 e he
    simp
    omega
   have e3 : (a.lab == k) = true := by rw [beq_iff_eq]; exact h1
   rw [List.filter_cons, if_pos (by simp; omega), e1, List.filter_cons, if_neg (by simp; omega), e2, List.find?_cons, e3]
   rfl
  ·have e1 : (a :: l).filter (fun e => decide (e.lab < k + 1)) = [] := by
    rw [List.filter_eq_nil_iff]
    intro e he
    have : k < e.lab := by
     rcases List.mem_cons.1 he with rfl | he
     ·exact h1
     ·have := h.1 e he; omega
    simp
    omega
   have e2 : (a :: l).filter (fun e => decide (e.lab < k)) = [] := by
    rw [List.filter_eq_nil_iff]
    intro e he
    have : k < e.lab := by
     rcases List.mem_cons.1 he with rfl | he
     ·exact h1
     ·have := h.1 e he; omega
    simp
    omega
   have e3 : (a :: l).find? (fun e => e.lab == k) = none := by
    rw [List.find?_eq_none]
    intro e he
    have : k < e.lab := by
     rcases List.mem_cons.1 he with rfl | he
     ·exact h1
     ·have := h.1 e he; omega
    simp
    omega
   rw [e1, e2, e3]
   rfl
theorem out_up {d : Lts} (h : d.edges.Pairwise fun a b => a.src < b.src ∨ (a.src = b.src ∧ a.lab < b.lab)) (x : Int) : (outOf d x).Pairwise fun a b => a.lab < b.lab := by
 unfold outOf
 rw [List.pairwise_filter]
 refine h.imp fun {a b} hab ha hb => ?_
 rw [beq_iff_eq] at ha hb
 omega

end Go.Proofs.YtjghfgaincnegaaGreatDoor

namespace Go.Proofs.YtjghfgaincnegaaGreatDoor
open Go Go.RowKit

theorem compact_upto {α : Type} [Inhabited α] [DecidableEq α] (lt : α → α → Prop) (ht : ∀ a b c, lt a b → lt b c → lt a c) (d : Array α) (hs : ∀ i j, i < j → j < d.size → d[i]! = d[j]! ∨ lt d[i]! d[j]!) :
  ∀ m, m ≤ d.size → (Lib.compactUpTo d m).Pairwise lt ∧ ∀ x, x ∈ Lib.compactUpTo d m ↔ ∃ j, j < m ∧ d[j]! = x
 | 0, _ => ⟨by simp [Lib.compactUpTo], fun x => by simp [Lib.compactUpTo]⟩
 | m + 1, hm => by
  obtain ⟨h1, h2⟩ := compact_upto lt ht d hs m (by omega)
  rw [Lib.compactUpTo_succ]
  by_cases hk : Lib.keeps d m = true
  ·rw [if_pos hk]
   refine ⟨?_, fun x => ?_⟩
   ·rw [List.pairwise_append]
    refine ⟨h1, by simp, fun a ha b hb => ?_⟩
    rw [List.mem_singleton] at hb
    subst hb
    obtain ⟨j, hj, rfl⟩ := (h2 a).1 ha
    unfold Lib.keeps at hk
    rw [decide_eq_true_eq] at hk
    rcases hk with hk | hk
    ·omega
    ·have hl : lt d[m - 1]! d[m]! := by
      rcases hs (m - 1) m (by omega) (by omega) with e | e
      ·exact absurd e.symm hk
      ·exact e
     by_cases hjm : j = m - 1
     ·rw [hjm]; exact hl
     ·rcases hs j (m - 1) (by omega) (by omega) with e | e
      ·rw [e]; exact hl
      ·exact ht _ _ _ e hl
   ·rw [List.mem_append, h2, List.mem_singleton]
    constructor
    ·rintro (⟨j, hj, e⟩ | e)
     ·exact ⟨j, by omega, e⟩
     ·exact ⟨m, by omega, e.symm⟩
    ·rintro ⟨j, hj, e⟩
     by_cases hjm : j = m
     ·subst hjm; exact .inr e.symm
     ·exact .inl ⟨j, by omega, e⟩
  ·rw [if_neg hk, List.append_nil]
   refine ⟨h1, fun x => ?_⟩
   rw [h2]
   have hk' : m ≠ 0 ∧ d[m]! = d[m - 1]! := by
    unfold Lib.keeps at hk
    rw [decide_eq_true_eq, not_or, Classical.not_not] at hk
    exact hk
   constructor
   ·rintro ⟨j, hj, e⟩
    exact ⟨j, by omega, e⟩
   ·rintro ⟨j, hj, e⟩
    by_cases hjm : j = m
    ·subst hjm
     exact ⟨j - 1, by omega, by rw [← hk'.2]; exact e⟩
    ·exact ⟨j, by omega, e⟩
theorem compact_is {α : Type} [Inhabited α] [DecidableEq α] (lt : α → α → Prop) (ht : ∀ a b c, lt a b → lt b c → lt a c) (zs : List α) (hs : zs.Pairwise fun a b => a = b ∨ lt a b) :
  (Lib.compact zs).Pairwise lt ∧ ∀ x, x ∈ Lib.compact zs ↔ x ∈ zs := by
 have hp := List.pairwise_iff_getElem.1 hs
 have hg : ∀ i (h : i < zs.length), zs.toArray[i]! = zs[i] := fun i h => by
  rw [getElem!_pos zs.toArray i (by simpa using h)]
  simp
 obtain ⟨h1, h2⟩ := compact_upto lt ht zs.toArray (fun i j hij hj => by
  have hj' : j < zs.length := by simpa using hj
  rw [hg i (by omega), hg j hj']
  exact hp i j (by omega) hj' hij) zs.length (by simp)
 refine ⟨h1, fun x => ?_⟩
 unfold Lib.compact
 rw [h2, List.mem_iff_getElem]
 constructor
 ·rintro ⟨j, hj, e⟩
  exact ⟨j, hj, by rw [← hg j hj]; exact e⟩
 ·rintro ⟨j, hj, e⟩
  exact ⟨j, hj, by rw [hg j hj]; exact e⟩

/-- Strictly ascending lists with the same members are one list. -/
theorem rise_unique {α : Type} (lt : α → α → Prop) (hi : ∀ a, ¬ lt a a) (ha : ∀ a b, lt a b → ¬ lt b a) : ∀ (l m : List α), l.Pairwise lt → m.Pairwise lt → (∀ x, x ∈ l ↔ x ∈ m) → l = m
 | [], [], _, _, _ => rfl
 | [], b :: m, _, _, h => by have := (h b).2 (by simp); simp at this
 | a :: l, [], _, _, h => by have := (h a).1 (by simp); simp at this
 | a :: l, b :: m, hl, hm, h => by
  rw [List.pairwise_cons] at hl hm
  have e : a = b := by
   have h1 := (h a).1 (by simp)
   have h2 := (h b).2 (by simp)
   rw [List.mem_cons] at h1 h2
   rcases h1 with h1 | h1
   ·exact h1
   ·rcases h2 with h2 | h2
    ·exact h2.symm
    ·exact absurd (hl.1 b h2) (ha _ _ (hm.1 a h1))
  subst e
  rw [rise_unique lt hi ha l m hl.2 hm.2 fun x => ?_]
  constructor
  ·intro hx
   have h1 := (h x).1 (by simp [hx])
   rw [List.mem_cons] at h1
   rcases h1 with h1 | h1
   ·subst h1; exact absurd (hl.1 x hx) (hi x)
   ·exact h1
  ·intro hx
   have h1 := (h x).2 (by simp [hx])
   rw [List.mem_cons] at h1
   rcases h1 with h1 | h1
   ·subst h1; exact absurd (hm.1 x hx) (hi x)
   ·exact h1

end Go.Proofs.YtjghfgaincnegaaGreatDoor

namespace Go.Proofs.YtjghfgaincnegaaGreatDoor
open Go Go.RowKit

/-- What a call that turns nothing leaves: draws, and blocks behind. -/
theorem grow_of_below {w w' : World} (hb : Below w.heap.size w w') (hd : w.drawn ≤ w'.drawn) : ∃ q os, w' = Go.Sort.grow (w.drewN q) os := by
 refine ⟨w'.drawn - w.drawn, w'.heap.extract w.heap.size w'.heap.size, ?_⟩
 have hh : w'.heap = w.heap ++ w'.heap.extract w.heap.size w'.heap.size := by
  apply Array.ext_getElem?
  intro i
  by_cases hi : i < w.heap.size
  ·rw [hb.block i hi, Array.getElem?_append_left hi]
  ·rw [Array.getElem?_append_right (by omega), Array.getElem?_extract]
   have := hb.size
   by_cases h2 : i < w'.heap.size
   ·rw [if_pos (by omega)]; congr 1; omega
   ·rw [if_neg (by omega), Array.getElem?_eq_none (by omega)]
 obtain ⟨h1, h2, h3⟩ := (⟨hb.os, hb.tape, hb.output⟩ : w'.os = w.os ∧ w'.tape = w.tape ∧ w'.output = w.output)
 cases w; cases w'
 simp only at h1 h2 h3 hh hd
 subst h1 h2 h3
 simp only [Go.Sort.grow, World.drewN, World.mk.injEq, true_and, and_true]
 exact ⟨hh, by omega⟩

set_option maxRecDepth 100000 in
theorem compareEdges_more (a b : Edge) (w : World) : Calls Tryz.prog 106 #[.agg #[.int .i64 a.src, .int .i64 a.lab, .int .i64 a.dst], .agg #[.int .i64 b.src, .int .i64 b.lab, .int .i64 b.dst]] w fun e w' => e = .returned (.int .i64 (cmpE a b)) ∧ Below w.heap.size w w' ∧ w.drawn ≤ w'.drawn := by
 obtain ⟨W, hW⟩ : ∃ W, W = (w.alloc (.cells #[.int .i64 a.src, .int .i64 a.lab, .int .i64 a.dst] 78)).alloc (.cells #[.int .i64 b.src, .int .i64 b.lab, .int .i64 b.dst] 78) := ⟨_, rfl⟩
 have HB : Hid (Below w.heap.size w W) := by
  unfold Hid
  rw [hW]
  exact ((Below.refl _ _).alloc (Nat.le_refl _) _).alloc (by simp) _
 have HDR : Hid (W.drawn = w.drawn) := by unfold Hid; rw [hW]; rfl
 have a0 : W.cell? ⟨w.heap.size, 0, none⟩ = some (.int .i64 a.src) := by rw [hW]; simp
 have a1 : W.cell? ⟨w.heap.size, 1, none⟩ = some (.int .i64 a.lab) := by rw [hW]; simp
 have a2 : W.cell? ⟨w.heap.size, 2, none⟩ = some (.int .i64 a.dst) := by rw [hW]; simp
 have b0 : W.cell? ⟨w.heap.size + 1, 0, none⟩ = some (.int .i64 b.src) := by rw [hW]; simp
 have b1 : W.cell? ⟨w.heap.size + 1, 1, none⟩ = some (.int .i64 b.lab) := by rw [hW]; simp
 have b2 : W.cell? ⟨w.heap.size + 1, 2, none⟩ = some (.int .i64 b.dst) := by rw [hW]; simp
 go_enter Tryz.func106, Tryz.ntmps106
 go_wp2
 rw [← hW]
 clear hW
 go_still_tail 15, (by kernel_rfl)
 still_call (still_same (Compare_any _ _ _))
 repeat still_step
 still_call (still_same (Compare_any _ _ _))
 repeat still_step
 still_call (still_same (Compare_any _ _ _))
 repeat still_step
 refine wpStill_nil ?_
 change wpList _ _ _ _ _ W.drew
 obtain ⟨W2, hW2⟩ : ∃ W2, W2 = W.drew := ⟨_, rfl⟩
 rw [← hW2]
 have HB2 : Hid (Below w.heap.size w W2) := by
  unfold Hid
  rw [hW2]
  exact HB.out.drew
 have HD2 : Hid (w.drawn ≤ W2.drawn) := by
  unfold Hid
  rw [hW2]
  show w.drawn ≤ W.drawn + 1
  have := HDR.out
  omega
 clear hW2 a0 a1 a2 b0 b1 b2
 have HS : Hid (SliceK 1 encI 0 (W2.alloc (.cells #[.int .i64 (cmpI a.src b.src), .int .i64 (cmpI a.lab b.lab), .int .i64 (cmpI a.dst b.dst)] 3)) (.slice (some ⟨W2.heap.size, 0, none⟩) 3 3) [cmpI a.src b.src, cmpI a.lab b.lab, cmpI a.dst b.dst]) := by
  have := World.ownsRow_lit (base := 0) (e := 3) (size := 1) W2 #[.int .i64 (cmpI a.src b.src), .int .i64 (cmpI a.lab b.lab), .int .i64 (cmpI a.dst b.dst)] 3 (Nat.zero_le _) (by decide) (by simp)
  exact SliceK.of_owns (e := 3) encI_len rfl (by rw [flat_encI]; simpa using this)
 have HB3 : Hid (Below w.heap.size w (W2.alloc (.cells #[.int .i64 (cmpI a.src b.src), .int .i64 (cmpI a.lab b.lab), .int .i64 (cmpI a.dst b.dst)] 3))) := HB2.out.alloc HB2.out.size _
 have HD3 : Hid (w.drawn ≤ (W2.alloc (.cells #[.int .i64 (cmpI a.src b.src), .int .i64 (cmpI a.lab b.lab), .int .i64 (cmpI a.dst b.dst)] 3)).drawn) := HD2.out
 go_wp2_with fail
 refine (Or_any 0 _ _ _ HS.out).mono ?_
 rintro e w' ⟨rfl, rfl⟩
 go_wp2_with fail
 go_ret
 exact ⟨rfl, HB3.out, HD3.out⟩

/-- How labels are compared: tau first, else by their bytes. -/
def cmpL (a b : List UInt8) : Int := if a == b then 0 else if a == tauB then -1 else if b == tauB then 1 else Lib.compareBytes a b

theorem compareLabels_any (a b : ByteArray) (w : World) : Calls Tryz.prog 118 #[.string a, .string b] w fun e w' => e = .returned (.int .i64 (cmpL a.toList b.toList)) ∧ w = w' := by
 have HC := Lib.hid (fun w' => Tryz.strings_Compare a b w')
 cases h1 : (a.toList == b.toList)
 ·cases h2 : (a.toList == tauB)
  ·cases h3 : (b.toList == tauB)
   ·have HF : Hid (cmpL a.toList b.toList = Lib.compareBytes a.data.toList b.data.toList) := by unfold Hid cmpL; rw [h1, h2, h3, Lib.toList_data, Lib.toList_data]; rfl
    unfold tauB at h2 h3
    go_enter Tryz.func118, Tryz.ntmps118
    go_wp2_with fail
    refine Calls.mono (HC.out _) ?_
    rintro e w' ⟨rfl, rfl⟩
    go_wp2
    go_ret
    exact ⟨ret_int HF.out.symm, rfl⟩
   ·have HF : Hid (cmpL a.toList b.toList = 1) := by unfold Hid cmpL; rw [h1, h2, h3]; rfl
    unfold tauB at h2 h3
    go_enter Tryz.func118, Tryz.ntmps118
    go_wp2
    go_ret
    exact ⟨ret_int HF.out.symm, rfl⟩
  ·have HF : Hid (cmpL a.toList b.toList = -1) := by unfold Hid cmpL; rw [h1, h2]; rfl
   unfold tauB at h2
   go_enter Tryz.func118, Tryz.ntmps118
   go_wp2
   go_ret
   exact ⟨ret_int HF.out.symm, rfl⟩
 ·have HF : Hid (cmpL a.toList b.toList = 0) := by unfold Hid cmpL; rw [h1]; rfl
  go_enter Tryz.func118, Tryz.ntmps118
  go_wp2
  go_ret
  exact ⟨ret_int HF.out.symm, rfl⟩

theorem swo_of_total {α : Type} {lt : α → α → Bool} (hi : ∀ x, lt x x = false) (ht : ∀ x y z, lt x y = true → lt y z = true → lt x z = true) (htri : ∀ x y, lt x y = false → lt y x = false → x = y) : Go.Sort.SWO lt where
 irrefl := hi
 trans := ht
 ntrans x y z h1 h2 := by
  cases h : lt x z with
  | false => rfl
  | true =>
   cases h3 : lt y x with
   | true => rw [ht y x z h3 h] at h2; cases h2
   | false =>
    have e := htri x y h1 h3
    subst e
    rw [h] at h2
    cases h2

theorem cmpB_lt : ∀ a b : List UInt8, decide (Lib.compareBytes a b < 0) = Op.bytesLess a b
 | [], [] => by simp [Lib.compareBytes, Op.bytesLess]
 | [], _ :: _ => by simp [Lib.compareBytes, Op.bytesLess]
 | _ :: _, [] => by simp [Lib.compareBytes, Op.bytesLess]
 | a :: x, b :: y => by
  rw [Lib.compareBytes, Op.bytesLess, ← cmpB_lt x y]
  by_cases h1 : a < b
  ·simp [h1]
  ·by_cases h2 : b < a
   ·have h3 : ¬ a = b := fun e => by subst e; exact h1 h2
    simp [h1, h2, h3]
   ·have h3 : a = b := UInt8.le_antisymm (UInt8.not_lt.1 h2) (UInt8.not_lt.1 h1)
    simp [h3]
/-- The strict order of labels: tau first. -/
def lessL (a b : List UInt8) : Bool := !(a == b) && (a == tauB || (!(b == tauB) && Op.bytesLess a b))
theorem ltOf_cmpL : ltOf cmpL = lessL := by
 funext a b
 unfold ltOf cmpL lessL
 cases h1 : (a == b)
 ·cases h2 : (a == tauB)
  ·cases h3 : (b == tauB)
   ·simp [cmpB_lt]
   ·simp
  ·simp
 ·simp
theorem lessL_iff (a b : List UInt8) : lessL a b = true ↔ a ≠ b ∧ (a = tauB ∨ (b ≠ tauB ∧ a < b)) := by
 unfold lessL
 rw [less_lt]
 simp
theorem lessL_irrefl (a : List UInt8) : lessL a a = false := by unfold lessL; simp
theorem lessL_trans (a b c : List UInt8) (h : lessL a b = true) (k : lessL b c = true) : lessL a c = true := by
 rw [lessL_iff] at *
 obtain ⟨h1, h2⟩ := h
 obtain ⟨k1, k2⟩ := k
 rcases h2 with h2 | ⟨h2, h3⟩
 ·refine ⟨fun e => ?_, .inl h2⟩
  rcases k2 with k2 | ⟨k2, k3⟩
  ·exact h1 (by rw [h2, k2])
  ·exact k2 (by rw [← e, h2])
 ·rcases k2 with k2 | ⟨k2, k3⟩
  ·exact absurd k2 h2
  ·exact ⟨fun e => List.lt_irrefl a (by rw [e] at h3 ⊢; exact List.lt_trans h3 k3), .inr ⟨k2, List.lt_trans h3 k3⟩⟩
theorem lessL_tri (a b : List UInt8) (h : lessL a b = false) (k : lessL b a = false) : a = b := by
 by_cases e : a = b
 ·exact e
 ·exfalso
  have h1 := fun x => (Bool.eq_false_iff.1 h) ((lessL_iff a b).2 x)
  have k1 := fun x => (Bool.eq_false_iff.1 k) ((lessL_iff b a).2 x)
  by_cases ta : a = tauB
  ·exact h1 ⟨e, .inl ta⟩
  ·by_cases tb : b = tauB
   ·exact k1 ⟨fun x => e x.symm, .inl tb⟩
   ·have h2 : ¬ a < b := fun x => h1 ⟨e, .inr ⟨tb, x⟩⟩
    have h3 : ¬ b < a := fun x => k1 ⟨fun x => e x.symm, .inr ⟨ta, x⟩⟩
    exact e (List.le_antisymm (List.not_lt.1 h3) (List.not_lt.1 h2))
theorem swoL : Go.Sort.SWO (ltOf cmpL) := by rw [ltOf_cmpL]; exact swo_of_total lessL_irrefl lessL_trans lessL_tri

theorem ltOf_cmpE : ltOf cmpE = edgeLess := by
 funext a b
 unfold ltOf
 have h := cmpE_less a b
 cases h2 : edgeLess a b with
 | true => rw [h2] at h; simp only [Bool.not_true, decide_eq_false_iff_not] at h; rw [decide_eq_true_eq]; omega
 | false => rw [h2] at h; simp only [Bool.not_false, decide_eq_true_eq] at h; rw [decide_eq_false_iff_not]; omega
theorem edgeLess_iff (a b : Edge) : edgeLess a b = true ↔ (a.src < b.src ∨ (a.src = b.src ∧ (a.lab < b.lab ∨ (a.lab = b.lab ∧ a.dst < b.dst)))) := by
 unfold edgeLess
 split
 ·rw [decide_eq_true_eq]; omega
 ·split
  ·rw [decide_eq_true_eq]; omega
  ·rw [decide_eq_true_eq]; omega
theorem edgeLess_irrefl (a : Edge) : edgeLess a a = false := by rw [Bool.eq_false_iff]; intro h; rw [edgeLess_iff] at h; omega
theorem edgeLess_trans (a b c : Edge) (h : edgeLess a b = true) (k : edgeLess b c = true) : edgeLess a c = true := by rw [edgeLess_iff] at *; omega
theorem edgeLess_tri (a b : Edge) (h : edgeLess a b = false) (k : edgeLess b a = false) : a = b := by
 rw [Bool.eq_false_iff] at h k
 have h1 := mt (edgeLess_iff a b).2 h
 have k1 := mt (edgeLess_iff b a).2 k
 have e1 : a.src = b.src := by omega
 have e2 : a.lab = b.lab := by omega
 have e3 : a.dst = b.dst := by omega
 cases a; cases b
 simp only at e1 e2 e3
 subst e1 e2 e3
 rfl
theorem swoE : Go.Sort.SWO (ltOf cmpE) := by rw [ltOf_cmpE]; exact swo_of_total edgeLess_irrefl edgeLess_trans edgeLess_tri

end Go.Proofs.YtjghfgaincnegaaGreatDoor

namespace Go.Proofs.YtjghfgaincnegaaGreatDoor
open Go Go.RowKit

theorem grownBy_put {α : Type} [Inhabited α] {enc : α → Value} {w : World} {g q : Nat} (d : Array α) : w.grownBy (Go.Sort.putRow enc (Go.Sort.ahead w q) g 0 d) (some g) := by
 refine ⟨rfl, rfl, rfl, by simp [Go.Sort.putRow, Go.Sort.mapBlock, Go.Sort.ahead], fun k hk hne => ?_⟩
 have : g ≠ k := fun e => hne (by rw [e])
 simp [Go.Sort.putRow, Go.Sort.mapBlock, Go.Sort.ahead, Array.getElem?_modify, this]

end Go.Proofs.YtjghfgaincnegaaGreatDoor

namespace Go.Proofs.YtjghfgaincnegaaGreatDoor
open Go Go.RowKit

def mkB (l : List UInt8) : ByteArray := ⟨l.toArray⟩
theorem mkB_data (b : ByteArray) : mkB b.data.toList = b := by cases b; simp [mkB]
theorem mkB_list (l : List UInt8) : (mkB l).data.toList = l := by simp [mkB]
theorem mkB_toList (l : List UInt8) : (mkB l).toList = l := by rw [Lib.toList_data, mkB_list]
/-- A list of labels, sorted and each once. -/
def sortL (ls : List ByteArray) : List ByteArray := ((ls.map (·.data.toList)).mergeSort fun x y => !lessL y x).map mkB
def labSet (ls : List ByteArray) : List ByteArray := (Lib.compact ((ls.map (·.data.toList)).mergeSort fun x y => !lessL y x)).map mkB
theorem map_enc (zs : List (List UInt8)) : (zs.map mkB).map Value.string = zs.map encStr := by
 rw [List.map_map]
 apply List.map_congr_left
 intro x _
 simp [mkB, encStr]
theorem labSet_eq {ls m : List ByteArray} (hm : (m.map (·.data.toList)).Pairwise fun a b => lessL a b = true) (hmem : ∀ x, x ∈ ls ↔ x ∈ m) : labSet ls = m := by
 have hs : ((ls.map (·.data.toList)).mergeSort fun x y => !lessL y x).Pairwise fun a b => a = b ∨ lessL a b = true := by
  have h1 := List.pairwise_mergeSort (le := fun x y : List UInt8 => !lessL y x) (fun a b c h1 h2 => by
   simp only [Bool.not_eq_true'] at *
   have := (swo_of_total lessL_irrefl lessL_trans lessL_tri).ntrans c b a h2 h1
   exact this) (fun a b => by
   cases h : lessL b a with
   | false => simp
   | true =>
    cases h2 : lessL a b with
    | false => simp
    | true => have := lessL_trans a b a h2 h; rw [lessL_irrefl] at this; cases this) (ls.map (·.data.toList))
  refine h1.imp fun {a b} h => ?_
  simp only [Bool.not_eq_true'] at h
  cases h2 : lessL a b with
  | true => exact .inr rfl
  | false => exact .inl (lessL_tri a b h2 h)
 obtain ⟨h1, h2⟩ := compact_is (fun a b : List UInt8 => lessL a b = true) lessL_trans _ hs
 have h3 : Lib.compact ((ls.map (·.data.toList)).mergeSort fun x y => !lessL y x) = m.map (·.data.toList) := by
  refine rise_unique (fun a b : List UInt8 => lessL a b = true) (fun a h => by rw [lessL_irrefl] at h; cases h) (fun a b h k => by have := lessL_trans a b a h k; rw [lessL_irrefl] at this; cases this) _ _ h1 hm fun x => ?_
  rw [h2, List.mem_mergeSort, List.mem_map, List.mem_map]
  constructor
  ·rintro ⟨b, hb, rfl⟩; exact ⟨b, (hmem b).1 hb, rfl⟩
  ·rintro ⟨b, hb, rfl⟩; exact ⟨b, (hmem b).2 hb, rfl⟩
 unfold labSet
 rw [h3, List.map_map]
 have : (mkB ∘ fun x : ByteArray => x.data.toList) = id := by funext b; exact mkB_data b
 rw [this, List.map_id]

theorem enters_cmpL : ∀ args w, (callFunc 118 args).run Tryz.prog w = .ok (.enter 118 args) w := enters_of Tryz.func118 (by kernel_rfl) rfl
theorem enters_cmpE : ∀ args w, (callFunc 106 args).run Tryz.prog w = .ok (.enter 106 args) w := enters_of Tryz.func106 (by kernel_rfl) rfl

/-- slices.SortFunc of labels, then slices.Compact, at a list of the call's own. -/
theorem SortL_own (base : Nat) (v : Value) (xs : List ByteArray) (w : World) (ho : w.ownsRow base 9 1 v xs.length (xs.map Value.string)) (hz : xs.length ≤ 1048576) :
  Calls Tryz.prog 117 #[v, .func (.func 118) #[] #[]] w fun e w' => e = .returned (.tuple #[]) ∧ w'.ownsRow base 9 1 v xs.length ((sortL xs).map Value.string) ∧ w.grownBy w' v.ownBlock := by
 unfold sortL
 rw [map_enc]
 rw [← Lib.map_encStr] at ho
 have hl : (xs.map (·.data.toList)).length = xs.length := List.length_map ..
 rcases ho.2 with ⟨rfl, h0⟩ | ⟨g, cap, cur, rfl, hb, hg, hn, hm, hs, ht⟩
 ·have hx : xs = [] := List.eq_nil_of_length_eq_zero h0
  subst hx
  refine (Tryz.slices_SortFunc_none (α := List UInt8) none 0 _ w).mono ?_
  rintro e w' ⟨rfl, rfl⟩
  exact ⟨rfl, by simpa using ho, grown_refl _ _⟩
 ·rw [Nat.mul_one] at ht
  have hz2 : (xs.map (·.data.toList)).toArray.size = xs.length := by simp
  have hc := Tryz.slices_SortFunc_total (α := List UInt8) encStr (fun _ => rfl) cmpL swoL 118 #[] g 0 cap (xs.map (·.data.toList)).toArray w enters_cmpL
   (fun m os dk _ x y => (compareLabels_any (mkB x) (mkB y) _).mono fun e w' ⟨h1, h2⟩ => ⟨by rw [h1, mkB_toList, mkB_toList], 0, #[], by rw [← h2, Go.Sort.grow_empty]; rfl⟩)
   (holds_of_block hg (by rw [hl]; exact ht)) (Array.getElem?_eq_some_iff.1 hg).1 (by rw [hz2]; omega) (by rw [ltOf_cmpL]; exact lessL_tri)
  rw [hz2, ltOf_cmpL] at hc
  refine hc.mono ?_
  rintro e w' ⟨rfl, n, os, rfl⟩
  refine ⟨rfl, ?_, grownBy_sorted _⟩
  have := ownsRow_sorted (w := w) (n := n) (os := os) (ss := xs.map (·.data.toList)) (ts := (xs.map (·.data.toList)).mergeSort fun x y => !lessL y x) (List.length_mergeSort _) hb hg (by rw [hl]; exact hn) hm hs
  rw [hl] at this
  exact this

theorem CompactL_own (base : Nat) (v : Value) (xs : List ByteArray) (w : World) (ho : w.ownsRow base 9 1 v xs.length ((sortL xs).map Value.string)) :
  Calls Tryz.prog 119 #[v] w fun e w' => ∃ v', e = .returned v' ∧ w'.ownsRow base 9 1 v' (labSet xs).length ((labSet xs).map Value.string) ∧ w.grownBy w' v.ownBlock := by
 unfold labSet
 unfold sortL at ho
 rw [map_enc] at ho ⊢
 rw [List.length_map]
 obtain ⟨zs, hzs⟩ : ∃ zs, zs = (xs.map (·.data.toList)).mergeSort fun x y => !lessL y x := ⟨_, rfl⟩
 have hl : zs.length = xs.length := by rw [hzs, List.length_mergeSort, List.length_map]
 rw [← hzs] at ho ⊢
 have hle := Lib.compact_length_le zs
 rcases ho.2 with ⟨rfl, h0⟩ | ⟨g, cap, cur, rfl, hb, hg, hn, hm, hs, ht⟩
 ·have hx : zs = [] := List.eq_nil_of_length_eq_zero (by omega)
  rw [hx]
  refine (Tryz.slices_Compact_string_empty none 0 w).mono ?_
  rintro e w' ⟨rfl, rfl⟩
  exact ⟨_, rfl, World.ownsRow_nil _ _ _ _, grown_refl _ _⟩
 ·rw [Nat.mul_one] at ht
  have hm2 : cap ≤ 9223372036854775807 := by simpa [maxLen] using hm
  have hc := Tryz.slices_Compact_string g 0 cap zs w (holds_of_block hg (by rw [hl]; exact ht)) (by omega) (by omega)
  rw [hl] at hc
  refine hc.mono ?_
  rintro e w' ⟨rfl, q, rfl⟩
  have hc2 := Lib.ownsRow_putRow (q := q) (k := (Lib.compact zs).length) (ys := Lib.compact zs ++ List.replicate (xs.length - (Lib.compact zs).length) []) ho (by simp; omega) (by omega)
  rw [List.take_left] at hc2
  exact ⟨_, rfl, hc2, grownBy_put _⟩

end Go.Proofs.YtjghfgaincnegaaGreatDoor

namespace Go.Proofs.YtjghfgaincnegaaGreatDoor
open Go Go.RowKit

section
variable {P : Program} {ops : Array Oper} {md : Region.Mode} {C : World → Prop}

/-- Whatever order is picked, of the operations ahead of number n; then L. -/
def headAny (P : Program) (md : Region.Mode) (ops : Array Oper) (C : World → Prop) (n : Nat) (L : Array Bool → Act → Prop) : Nat → Array Bool → Act → Prop
 | 0, listed, a => L listed a
 | f + 1, listed, a => Region.ready md ops listed ≠ [] ∧ ∀ i ∈ Region.ready md ops listed, i < n ∧ qOp P ops C i (headAny P md ops C n L f (listed.setIfInBounds i true)) a

theorem wpAny_of_headAny {n g : Nat} {L : Array Bool → Act → Prop} {Q : Exit → Act → World → Prop} (hL : ∀ listed a w, C w → L listed a → wpAny P md ops Q g listed a w) (f : Nat) :
  ∀ (listed : Array Bool) (a : Act) (w : World), C w → headAny P md ops C n L f listed a → wpAny P md ops Q (f + g) listed a w := by
 induction f with
 | zero => intro listed a w hw h; rw [Nat.zero_add]; exact hL _ _ _ hw h
 | succ f ih =>
  intro listed a w hw h
  rw [show f + 1 + g = (f + g) + 1 from by omega]
  exact ⟨fun h0 => absurd h0 h.1, fun i hi => wpOp_of_qOp hw (fun a' w' hw' h' => ih _ a' w' hw' h') (h.2 i hi).2⟩

theorem headAny_first {n i : Nat} {oi : Oper} {v : Value} {L : Array Bool → Act → Prop} (hi : ops[i]? = some oi) (hsel : ∀ (j : Nat) (o : Oper) cs b, ops[j]? = some o → o.op ≠ .select cs b)
  (hs : Region.sinkB md ops n = true) (hc : Region.chainB md ops n = true) (hn : n < ops.size) (hin : i < n) (hdone : ∀ listed a, L listed a → ∀ j ∈ Region.ready md ops listed, n ≤ j) (f : Nat) :
  ∀ (listed : Array Bool) (a : Act), HeadInv md ops n listed →
   (∀ j oj, ops[j]? = some oj → j ≠ i → listed.getD j true = false → (∀ e ∈ oj.after, Region.binds md e = true → e.on ≠ i) → oi.apart ops oj = true) →
   i ∈ Region.ready md ops listed → YieldsIn P ops C oi v a → headAny P md ops C n L f (listed.setIfInBounds i true) (a.put oi.dst v) → headAny P md ops C n L (f + 1) listed a := by
 have behind : ∀ listed : Array Bool, HeadInv md ops n listed → i ∈ Region.ready md ops listed → ∀ j ∈ Region.ready md ops listed, j < n := by
  intro listed inv hr j hj
  rcases Nat.lt_or_ge j n with h | h
  ·exact h
  ·exact absurd hj (tail_waits hs hc hn inv _ i rfl hin (mem_ready.1 hr).1 j h)
 induction f with
 | zero =>
  intro listed a inv _ hr hy H
  refine ⟨fun h => (by rw [h] at hr; cases hr), fun j hj => ?_⟩
  have hjn := behind listed inv hr j hj
  refine ⟨hjn, ?_⟩
  by_cases hji : j = i
  ·subst hji; exact hy.qOp hi H
  ·have := hdone _ _ H j (ready_mono hj hji)
   omega
 | succ f ih =>
  intro listed a inv hfree hr hy H
  refine ⟨fun h => (by rw [h] at hr; cases hr), fun j hj => ?_⟩
  have hjn := behind listed inv hr j hj
  refine ⟨hjn, ?_⟩
  by_cases hji : j = i
  ·subst hji; exact hy.qOp hi H
  ·obtain ⟨hjun, oj, hoj, hall⟩ := mem_ready.1 hj
   have hnot : ∀ e ∈ oj.after, Region.binds md e = true → e.on ≠ i := fun e he hb heq => by
    have h1 := hall e he hb
    rw [heq, getD_both (mem_ready.1 hr).1] at h1
    cases h1
   have hrest := qOp_put hoj (hfree j oj hoj hji hjun hnot) (fun cs b => hsel i oi cs b hi) (fun cs b => hsel j oj cs b hoj) hy (H.2 j (ready_mono hj hji)).2
   refine qOp_mono (fun a' h3 => ih (listed.setIfInBounds j true) a' (inv.set hj hjn) (fun k ok hk hki hun hno => ?_) (ready_mono hr (Ne.symm hji)) h3.1 ?_) hrest
   ·refine hfree k ok hk hki ?_ hno
    by_cases hjk : j = k
    ·subst hjk; exact hjun
    ·rw [getD_set_ne true hjk] at hun; exact hun
   ·rw [Array.setIfInBounds_comm _ _ hji]
    exact h3.2

theorem headAny_lex {n g : Nat} {L : Act → Prop} (hsel : Region.noSelect ops = true) (hs : Region.sinkB md ops n = true) (hc : Region.chainB md ops n = true) (hn : n < ops.size) (l : List Oper) :
  ∀ (k : Nat) (listed : Array Bool) (a : Act), (∀ j, j < l.length → l[j]? = ops[k + j]?) → k + l.length = n → HeadInv md ops n listed → Region.lexHead md ops g l.length k listed = true → wpQuiet P ops C L l a →
   headAny P md ops C n (fun listed' a' => Region.seqB md ops g n listed' = true ∧ L a') l.length listed a := by
 induction l with
 | nil =>
  intro k listed a _ hk _ hB h
  obtain rfl : k = n := by simpa using hk
  exact ⟨by simpa [Region.lexHead] using hB, h⟩
 | cons o l ih =>
  intro k listed a hl hk inv hB h
  have h0 : ops[k]? = some o := by simpa using (hl 0 (by simp)).symm
  simp only [List.length_cons, Region.lexHead, Bool.and_eq_true] at hB
  have hkn : k < n := by simp only [List.length_cons] at hk; omega
  have hr : k ∈ Region.ready md ops listed := by simpa using hB.1.1
  obtain ⟨v, hy, hK⟩ := yieldsIn_of_qOp h0 (show qOp P ops C k (wpQuiet P ops C L l) a by unfold qOp; simp only [h0]; exact h)
  exact headAny_first h0 (Region.noSelect_spec hsel) hs hc hn hkn (fun _ _ hL => seqB_ready hL.1) l.length listed a inv (Region.free_spec h0 hB.1.2) hr hy
   (ih (k + 1) _ _ (fun j hj => by have := hl (j + 1) (by simp; omega); simpa [Nat.add_assoc, Nat.add_comm 1 j] using this) (by simp only [List.length_cons] at hk; omega) (inv.set hr hkn) hB.2 hK)

/-- The operations ahead of number n are quiet in the class C; the others come in their order, from whatever world of the class. -/
theorem wp_region_quiet_tail {id : Nat} {Q : Exit → Act → World → Prop} {a : Act} {w : World} {l : List Oper} (n : Nat) (hm : P.follows .mixedOrders = true) (hB : Region.lexTailB .any l.toArray n = true) (hC : C { w with drawn := w.drawn + 1 })
  (h : wpQuiet P l.toArray C (fun a' => ∀ w', C w' → wpList P l.toArray Q (l.drop n) a' w') (l.take n) a) : (Code.region id l.toArray true).wp P Q a w := by
 simp only [Region.lexTailB, Bool.and_eq_true, decide_eq_true_eq] at hB
 obtain ⟨⟨⟨⟨hsel, hn⟩, hs⟩, hc⟩, hlex⟩ := hB
 have hn' : n < l.length := by simpa using hn
 have htl : (l.take n).length = n := by simp; omega
 have hdl : (l.drop n).length = l.toArray.size - n := by simp
 have inv0 : HeadInv .any l.toArray n (Array.replicate l.toArray.size false) :=
  ⟨by simp, fun j oj _ hl => (by rw [getD_replicate_false] at hl; cases hl), fun t _ ht => getD_in (by simpa using ht) (getD_replicate_false _ _)⟩
 have H := headAny_lex (C := C) (md := .any) (g := l.toArray.size - n) hsel hs hc hn (l.take n) 0 _ a (fun j hj => by
  have hj' : j < n := by rw [htl] at hj; exact hj
  simp [hj']) (by simpa using htl) inv0 (by rw [htl]; exact hlex) h
 refine wp_region_any hm ?_
 have := wpAny_of_headAny (Q := Q) (g := l.toArray.size - n) (fun listed a' w' hw' hL => by
  have := wpAny_of_seq (md := .any) (Q' := Q) (l.drop n) n listed a' w' (fun j => by simp [List.getElem?_drop]) (by rw [hdl]; exact hL.1) (hL.2 w' hw')
  rwa [hdl] at this) _ _ _ _ hC H
 rw [htl, show n + (l.toArray.size - n) = l.toArray.size from by omega] at this
 exact this
end

/-- At the class of the later worlds. -/
theorem wp_region_later_tail {P : Program} {id : Nat} {Q : Exit → Act → World → Prop} {a : Act} {w : World} {l : List Oper} (n : Nat) (hm : P.follows .mixedOrders = true) (hB : Region.lexTailB .any l.toArray n = true)
  (h : wpQuiet P l.toArray (fun w' => ∃ g : Later w, w' = g.w) (fun a' => ∀ w', (∃ g : Later w, w' = g.w) → wpList P l.toArray Q (l.drop n) a' w') (l.take n) a) : (Code.region id l.toArray true).wp P Q a w :=
 wp_region_quiet_tail (C := fun w' => ∃ g : Later w, w' = g.w) n hm hB ⟨⟨_, (Below.refl _ w).drew⟩, rfl⟩ h

end Go.Proofs.YtjghfgaincnegaaGreatDoor

namespace Go.Proofs.YtjghfgaincnegaaGreatDoor
open Go Go.RowKit Go.Sort

instance : Inhabited Edge := ⟨⟨0, 0, 0⟩⟩
def RiseE (es : List Edge) : Prop := es.Pairwise fun a b => edgeLess a b = true

theorem holdsE_of_own {w : World} {base g cap n : Nat} {es : List Edge} (h : w.ownsRow base 78 3 (.slice (some ⟨g, 0, none⟩) n cap) n (es.flatMap encE)) (hn : n = es.length) : HoldsK encE 3 w g 0 es.toArray := by
 subst hn
 intro t ht
 have ht' : t < es.length * 3 := by simpa using ht
 refine ⟨?_, h.frozenAt _⟩
 have hs : SliceK 3 encE base w (.slice (some ⟨g, 0, none⟩) es.length cap) es := SliceK.of_owns encE_len rfl h
 obtain ⟨a, c, e, -, -, hrow⟩ := hs
 simp only [Value.slice.injEq, true_and] at e
 obtain ⟨rfl, rfl⟩ := e
 rcases hrow with h0 | ⟨b, o, e, -, -, hc⟩
 ·omega
 ·simp only [Option.some.injEq, Addr.mk.injEq, and_true] at e
  obtain ⟨rfl, rfl⟩ := e
  have hi : t / 3 < es.length := by omega
  have h1 := hc (t / 3) hi (t % 3) (by omega)
  rw [show 0 + t / 3 * 3 + t % 3 = 0 + t from by omega] at h1
  rw [h1]
  rw [get_flatK encE 3 es.toArray t (by simpa using ht')]
  have h2 : es.toArray[t / 3]! = es[t / 3] := by rw [getElem!_pos es.toArray (t / 3) (by simpa using hi)]; simp
  rw [h2]
  have h3 : t % 3 < (encE es[t / 3]).length := by rw [encE_len]; omega
  rw [List.getElem?_eq_getElem h3]
  simp [getElem!_pos, h3]

theorem isAggE (w : World) : (isAgg 78).run Tryz.prog w = .ok true w := by kernel_rfl
theorem sizeOfE (w : World) : (Go.sizeOf 78).run Tryz.prog w = .ok 3 w := by kernel_rfl

theorem SortE_own (base : Nat) (v : Value) (es : List Edge) (w : World) (ho : w.ownsRow base 78 3 v es.length (es.flatMap encE)) (hr : RiseE es) (hz : es.length ≤ 1048576) :
  Calls Tryz.prog 121 #[v, .func (.func 106) #[] #[]] w fun e w' => e = .returned (.tuple #[]) ∧ Below w.heap.size w w' := by
 rcases ho.2 with ⟨rfl, h0⟩ | ⟨g, cap, cur, rfl, hb, hg, hn, hm, hs, ht⟩
 ·refine Calls.mono (R := fun e w' => e = .returned (.tuple #[]) ∧ w' = w) (Tryz.slices_SortFunc_edges_none (α := Edge) none 0 _ w) ?_
  rintro e w' ⟨rfl, rfl⟩
  exact ⟨rfl, Below.refl _ _⟩
 ·have hH := holdsE_of_own ho rfl
  have hz2 : es.toArray.size = es.length := by simp
  have hms : (es.mergeSort fun x y => !edgeLess y x) = es := by
   apply List.mergeSort_of_pairwise
   refine hr.imp fun {a b} h => ?_
   cases h2 : edgeLess b a with
   | false => rfl
   | true => have := edgeLess_trans a b a h h2; rw [edgeLess_irrefl] at this; cases this
  have hc := Tryz.slices_SortFunc_edges (α := Edge) 3 isAggE sizeOfE encE encE_len (fun x v hv => by simp [encE] at hv; rcases hv with rfl | rfl | rfl <;> rfl) cmpE swoE 106 #[] g 0 cap es.toArray w enters_cmpE
   (fun m os dk _ x y => (compareEdges_more x y _).mono fun e w' ⟨h1, h2, h3⟩ => ⟨h1, grow_of_below h2 h3⟩) hH (Array.getElem?_eq_some_iff.1 hg).1 (by rw [hz2]; omega) (by rw [ltOf_cmpE]; exact edgeLess_tri)
  rw [hz2, ltOf_cmpE, hms] at hc
  refine hc.mono ?_
  rintro e w' ⟨rfl, n, os, rfl⟩
  refine ⟨rfl, ?_⟩
  unfold sortWorldK
  have hps : putRowK encE 3 (Go.Sort.ahead w n) g 0 es.toArray = Go.Sort.ahead w n := putRow_self id _ g 0 _ hH
  rw [hps]
  exact Lib.below_grow w.heap.size w (Nat.le_refl _) n os

theorem eqEdge (x y : Edge) (w : World) : (binOp .eql 78 (.agg #[.int .i64 x.src, .int .i64 x.lab, .int .i64 x.dst]) (.agg #[.int .i64 y.src, .int .i64 y.lab, .int .i64 y.dst])).run Tryz.prog w = .ok (.bool (x.src == y.src && x.lab == y.lab && x.dst == y.dst)) w := by
 have u3 := Tryz.underlying2
 have hS : Tryz.prog.underlying 78 = some (.struct (Tryz.prog.fieldsOf 78)) := by kernel_rfl
 have hp : Tryz.prog.stoodInHeld 78 = false := by kernel_rfl
 rw [run_eql_struct, show (10000 : Nat) = 9999 + 1 from rfl, run_equalIn_agg w 9999 78 _ _ hS hp]
 simp only [Program.fieldsOf, Tryz.underlying78]
 go_simp
 by_cases h1 : x.src = y.src <;> by_cases h2 : x.lab = y.lab <;> by_cases h3 : x.dst = y.dst <;> simp [h1, h2, h3]
theorem guardEdge (op : BinOp) (a b : Operand) (xs ys : Array Value) (w : World) : (eqGuard op 78 a b (.agg xs) (.agg ys)).run Tryz.prog w = .ok () w := run_eqGuard_agg w op 78 a b xs ys (by kernel_rfl)
theorem rise_ne {es : List Edge} (h : RiseE es) {i : Nat} (hi : i + 1 < es.length) : es[i + 1] ≠ es[i] := by
 intro e
 have := List.pairwise_iff_getElem.1 h i (i + 1) (by omega) hi (by omega)
 rw [e, edgeLess_irrefl] at this
 cases this

set_option maxRecDepth 100000 in
set_option maxHeartbeats 2000000 in
theorem CompactE_own (base : Nat) (v : Value) (es : List Edge) (w : World) (ho : w.ownsRow base 78 3 v es.length (es.flatMap encE)) (hr : RiseE es) (hz : es.length ≤ 1048576) :
  Calls Tryz.prog 122 #[v] w fun e w' => e = .returned v ∧ Below w.heap.size w w' := by
 obtain ⟨a, c, rfl, -, -⟩ := owns_slice ho
 have HO := Lib.hid ho
 have HR := Lib.hid hr
 obtain ⟨N, hN⟩ : ∃ N, N = es.length := ⟨_, rfl⟩
 rw [← hN] at HO hz ⊢
 have HN := Lib.hid hN
 clear ho hr hN
 by_cases h2 : N < 2
 ·go_enter Tryz.func122, Tryz.ntmps122
  go_wp2
  go_ret
  exact ⟨rfl, Below.refl _ _⟩
 ·go_enter Tryz.func122, Tryz.ntmps122
  go_wp2
  go_loopw [3] (fun v3 wr => ∃ k : Nat, 1 ≤ k ∧ k ≤ N ∧ v3 = .int .i64 k ∧ Below w.heap.size w wr) (fun v3 _ => N - (intOf v3).toNat)
  case atStart => exact ⟨1, Nat.le_refl _, by omega, rfl, Below.refl _ _⟩
  case round =>
   obtain ⟨k, hk1, hk, rfl, hbl⟩ := hrel
   have HBL := Lib.hid hbl
   by_cases hlt : k < N
   ·obtain ⟨j, rfl⟩ : ∃ j, k = j + 1 := ⟨k - 1, by omega⟩
    have hj1 : j + 1 < es.length := by rw [← HN.out]; exact hlt
    have hne := rise_ne HR.out hj1
    obtain ⟨b, rfl, hb, e1, e2, e3⟩ := own_edge20 (owns_below HO.out hbl) HN.out hj1
    obtain ⟨b', eb, -, f1, f2, f3⟩ := own_edge20 (owns_below HO.out hbl) HN.out (show j < es.length by omega)
    simp only [Option.some.injEq, Addr.mk.injEq, and_true] at eb
    subst eb
    obtain ⟨x, hx⟩ : ∃ x, x = es[j + 1] := ⟨_, rfl⟩
    obtain ⟨y, hy⟩ : ∃ y, y = es[j] := ⟨_, rfl⟩
    rw [← hx] at e1 e2 e3 hne
    rw [← hy] at f1 f2 f3 hne
    have hq : (x.src == y.src && x.lab == y.lab && x.dst == y.dst) = false := by
     rw [Bool.eq_false_iff]
     intro h
     simp only [Bool.and_eq_true, beq_iff_eq] at h
     obtain ⟨⟨h1, h2⟩, h3⟩ := h
     apply hne
     cases x; cases y
     simp only at h1 h2 h3
     subst h1 h2 h3
     rfl
    have hE := fun w' => eqEdge x y w'
    rw [hq] at hE
    have hGd := fun (op : BinOp) (a b : Operand) (w : World) => guardEdge op a b #[.int .i64 x.src, .int .i64 x.lab, .int .i64 x.dst] #[.int .i64 y.src, .int .i64 y.lab, .int .i64 y.dst] w
    have le1 := later_cell hb e1
    have le2 := later_cell hb e2
    have le3 := later_cell hb e3
    have lf1 := later_cell hb f1
    have lf2 := later_cell hb f2
    have lf3 := later_cell hb f3
    have hsz := hbl.size
    have hjN : ((j + 1 : Nat) : Int) < (N : Int) := by omega
    have hjN2 : (j : Int) < (N : Int) := by omega
    have hj3 : ((j + 1 : Nat) : Int) = (j : Int) + 1 := by omega
    clear hne hq hx hy e1 e2 e3 f1 f2 f3 hbl hj1
    go_wp2
    refine wp_region_later (by kernel_rfl) (by kernel_rfl) ?_
    repeat (go_big_quiet_step ((fail)))
    refine wpQuiet_nil ?_
    intro _ hw9
    obtain ⟨nl, hw8⟩ := hw9
    subst hw8
    go_wp2
    go_roundw
    case rel => exact ⟨j + 1 + 1, by omega, by omega, by go_num, HBL.out.trans (nl.h.mono hsz)⟩
    case measure => simp [intOf]; omega
   ·go_wp2
    go_ret
    exact ⟨rfl, HBL.out⟩

end Go.Proofs.YtjghfgaincnegaaGreatDoor

namespace Go.Proofs.YtjghfgaincnegaaGreatDoor
open Go Go.RowKit

/-- An edge with its label as a text. -/
structure Arc where
 src : Int
 lab : ByteArray
 dst : Int
def encC (a : Arc) : List Value := [.int .i64 a.src, .string a.lab, .int .i64 a.dst]
theorem encC_len (a : Arc) : (encC a).length = 3 := rfl
def arcOf (t : Lts) (e : Edge) : Arc := ⟨e.src, labAt t e, e.dst⟩
def MadeTexts (xs : List ByteArray) (w : World) (e : Ending) (w' : World) : Prop :=
 ∃ v, e = .returned v ∧ Below w.heap.size w w' ∧ w'.ownsRow w.heap.size 9 1 v xs.length (xs.map Value.string)
theorem RowK.arc {lo : Nat} {w : World} {a : Option Addr} {xs : List Arc} (h : RowK 3 encC lo w a xs) {i : Nat} (hi : i < xs.length) :
  ∃ b off, a = some ⟨b, off, none⟩ ∧ lo ≤ b ∧ b < w.heap.size ∧ w.cell? ⟨b, off + i * 3, none⟩ = some (.int .i64 xs[i].src) ∧ w.cell? ⟨b, off + i * 3 + 1, none⟩ = some (.string xs[i].lab) ∧ w.cell? ⟨b, off + i * 3 + 2, none⟩ = some (.int .i64 xs[i].dst) := by
 rcases h with h | ⟨b, off, ha, h1, h2, h3⟩
 ·omega
 ·exact ⟨b, off, ha, h1, h2, by have := h3 i hi 0 (by omega); simpa [encC] using this, by have := h3 i hi 1 (by omega); simpa [encC] using this, by have := h3 i hi 2 (by omega); simpa [encC] using this⟩
theorem info_strA : (Tryz.prog.info? 9).map (fun i => (i.zero, i.size, i.bytes)) = some (some (.string ⟨#[]⟩), 1, 16) := by kernel_rfl
theorem arcs_take {xs : List Arc} {k : Nat} (h : k < xs.length) : ((xs.take (k + 1)).map Arc.lab) = (xs.take k).map Arc.lab ++ [xs[k].lab] := by
 rw [List.take_succ_eq_append_getElem h, List.map_append]; rfl

set_option maxRecDepth 100000 in
set_option maxHeartbeats 2000000 in
theorem labelsOf_any (lo : Nat) (v : Value) (xs : List Arc) (w : World) (hv : SliceK 3 encC lo w v xs) (hn : xs.length ≤ 1048576) : Calls Tryz.prog 97 #[v] w (MadeTexts (xs.map Arc.lab) w) := by
 obtain ⟨a, c, rfl, hc, hc2, hrow⟩ := hv
 have HR := Lib.hid hrow
 obtain ⟨i0, hi, hz0, hz1, hz2⟩ := info_parts info_strA
 obtain ⟨N, hN⟩ : ∃ N, N = xs.length := ⟨_, rfl⟩
 rw [← hN] at hc hn ⊢
 have HN := Lib.hid hN
 clear hrow hN
 go_enter Tryz.func97, Tryz.ntmps97
 go_wp2
 go_loopw [3, 8] (fun v3 v8 wr => ∃ k : Nat, k ≤ N ∧ v8 = .int .i64 k ∧ Below w.heap.size w wr ∧ wr.ownsRow w.heap.size 9 1 v3 k (((xs.take k).map Arc.lab).map .string)) (fun _ v8 _ => N - (intOf v8).toNat)
 case atStart => exact ⟨0, Nat.zero_le _, rfl, Below.refl _ _, World.ownsRow_nil _ _ _ _⟩
 case round =>
  obtain ⟨k, hk, rfl, hbl, ho⟩ := hrel
  have HBL := Lib.hid hbl
  have HO := Lib.hid ho
  have hsz := hbl.size
  by_cases hlt : k < N
  ·have hkx : k < xs.length := by rw [← HN.out]; exact hlt
   obtain ⟨ba, oa, rfl, -, hba, e1, e2, e3⟩ := (HR.out.below hbl).arc hkx
   have HTK := Lib.hid (arcs_take hkx)
   obtain ⟨x, hx⟩ : ∃ x, x = xs[k] := ⟨_, rfl⟩
   rw [← hx] at e1 e2 e3 HTK
   obtain ⟨ls, hls⟩ : ∃ ls, ls = (xs.take k).map Arc.lab := ⟨_, rfl⟩
   rw [← hls] at HO HTK
   clear hbl ho hx hkx hls
   go_wp2_with (at_builtin; refine wpList_append_own_at _ rfl _ _ 22 rfl w.heap.size 9 i0 (.string ⟨#[]⟩) 1 16 Tryz.underlying22 hi hz0 hz1 hz2 rfl (by decide) _ _ _ rfl ((HO.out.alloc _).alloc _) ⟨wr.heap.size + 1, 0, none⟩ 1 1 [.string x.lab] rfl rfl ?c1 ?c2 ?c3 ?c4 ?c5 ?_)
   case c1 => have := cell_one_new (wr.alloc (.cells #[.int .i64 x.src, .string x.lab, .int .i64 x.dst] 138)) (.string x.lab) 9; simpa using this
   case c2 => intro u hu; simp at hu; subst hu; rfl
   case c3 => first | omega | (simp [maxLen]; omega)
   case c4 => first | omega | (simp; omega)
   case c5 => first | omega | (simp; omega)
   intro v5 w5 ho5 hg5 _ _
   have HB5 : Hid (Below w.heap.size w w5) := ((HBL.out.alloc hsz _).alloc (by simp; omega) _).grown hg5 (by simp; omega) (fun b e => (HO.out.lt b e).1)
   have HO5 : Hid (w5.ownsRow w.heap.size 9 1 v5 (k + 1) (((xs.take (k + 1)).map Arc.lab).map .string)) := by
    unfold Hid
    rw [HTK.out, List.map_append]
    exact ho5
   clear ho5 hg5
   go_wp2
   go_roundw
   case rel => exact ⟨k + 1, by omega, by go_num, HB5.out, HO5.out⟩
   case measure => simp [intOf]; omega
  ·have hkN : k = N := by omega
   have HO2 : Hid (wr.ownsRow w.heap.size 9 1 u3 (xs.map Arc.lab).length ((xs.map Arc.lab).map .string)) := by
    have := HO.out
    rw [hkN, HN.out, List.take_length] at this
    rw [List.length_map]
    exact this
   clear hbl ho
   go_wp2
   go_ret
   exact ⟨_, rfl, HBL.out, HO2.out⟩

end Go.Proofs.YtjghfgaincnegaaGreatDoor

namespace Go.Proofs.YtjghfgaincnegaaGreatDoor
open Go Go.RowKit

/-- The rows lie in blocks of another type than t. -/
theorem own_type_ne {w : World} {base e size n : Nat} {v : Value} {xs : List Value} (h : w.ownsRow base e size v n xs) {b : Nat} {cs : Array Value} {t : TypeId} {f : Nat × Nat} (hb : w.heap[b]? = some (.cells cs t f)) (he : e ≠ t) : v.ownBlock = none ∨ v.ownBlock ≠ some b := by
 rcases h.2 with ⟨rfl, -⟩ | ⟨g, c, u, rfl, -, hg, -⟩
 ·exact .inl rfl
 ·refine .inr fun e1 => ?_
  simp only [Value.ownBlock, Option.some.injEq] at e1
  subst e1
  rw [hb] at hg
  simp only [Option.some.injEq, Obj.cells.injEq] at hg
  exact he hg.2.1.symm
theorem own_map_ne {w : World} {base e size n : Nat} {v : Value} {xs : List Value} (h : w.ownsRow base e size v n xs) {b : Nat} {es : Array MapEntry} {c : Nat} (hb : w.heap[b]? = some (.map es c)) : v.ownBlock = none ∨ v.ownBlock ≠ some b := by
 rcases h.2 with ⟨rfl, -⟩ | ⟨g, c, u, rfl, -, hg, -⟩
 ·exact .inl rfl
 ·refine .inr fun e1 => ?_
  simp only [Value.ownBlock, Option.some.injEq] at e1
  subst e1
  rw [hb] at hg
  cases hg

end Go.Proofs.YtjghfgaincnegaaGreatDoor

namespace Go.Proofs.YtjghfgaincnegaaGreatDoor
open Go Go.RowKit

theorem Index_ints (lo : Nat) (v : Value) (x : Int) (xs : List Int) (w : World) (hv : SliceK 1 encI lo w v xs) :
  Calls Tryz.prog 137 #[v, .int .i64 x] w fun e w' => ∃ r : Int, e = .returned (.int .i64 r) ∧ decide (0 ≤ r) = xs.any (fun y => y == x) ∧ w = w' := by
 obtain ⟨a, c, rfl, hcn, hcc, hrow⟩ := hv
 go_enter Tryz.func137, Tryz.ntmps137
 go_wp2_with fail
 go_loop [8] (fun i => ∃ k : Nat, k ≤ xs.length ∧ i = .int .i64 k ∧ ∀ j (h : j < xs.length), j < k → (x == xs[j]) = false) (fun i => xs.length - (intOf i).toNat)
 case atStart => exact ⟨0, Nat.zero_le _, rfl, fun _ _ h => by omega⟩
 case round =>
  obtain ⟨k, hk, rfl, ha⟩ := hrel
  have HA := Lib.hid ha
  clear ha
  by_cases hlt : k < xs.length
  ·obtain ⟨b1, o1, rfl, -, hbs, c1⟩ := hrow.one hlt
   simp only [encI, List.getElem?_cons_zero] at c1
   clear hrow
   cases h0 : (x == xs[k])
   ·have H0 := Lib.hid h0
    go_wp2_with fail
    go_round
    case rel => exact ⟨k + 1, by omega, by go_num, fun j h hj => by
     by_cases e : j = k
     ·subst e; exact H0.out
     ·exact HA.out j h (by omega)⟩
    case measure => simp [intOf]; omega
   ·have HF : Hid (xs.any (fun y => y == x) = true) := by
     unfold Hid
     rw [List.any_eq_true]
     exact ⟨xs[k], List.getElem_mem _, by rw [beq_iff_eq] at h0 ⊢; exact h0.symm⟩
    go_wp2_with fail
    go_ret
    exact ⟨_, rfl, by rw [HF.out]; simp, rfl⟩
  ·clear hrow
   go_wp2_with fail
   go_ret
   refine ⟨_, rfl, ?_, rfl⟩
   have : xs.any (fun y => y == x) = false := by
    rw [List.any_eq_false]
    intro y hy
    obtain ⟨j, hj, rfl⟩ := List.mem_iff_getElem.1 hy
    have := HA.out j hj (by omega)
    simp at this ⊢
    exact fun e => this e.symm
   rw [this]; simp

theorem Contains_ints (lo : Nat) (v : Value) (x : Int) (xs : List Int) (w : World) (hv : SliceK 1 encI lo w v xs) :
  Calls Tryz.prog 110 #[v, .int .i64 x] w fun e w' => e = .returned (.bool (xs.any fun y => y == x)) ∧ w = w' := by
 have HV := Lib.hid hv
 clear hv
 go_enter Tryz.func110, Tryz.ntmps110
 go_wp2_with fail
 refine (Index_ints lo v x xs _ HV.out).mono ?_
 rintro e w' ⟨r, rfl, hr, rfl⟩
 have HR := Lib.hid hr
 clear hr
 go_wp2_with fail
 go_ret
 exact ⟨ret_bool HR.out, rfl⟩

/-- Of a list of at most one number, nothing is to be compacted. -/
theorem Compact_one (a : Option Addr) (n cap : Nat) (w : World) (hn : n ≤ 1) :
  Calls Tryz.prog 127 #[.slice a n cap] w fun e w' => e = .returned (.slice a n cap) ∧ w = w' := by
 go_enter Tryz.func127, Tryz.ntmps127
 go_wp2_with fail
 go_ret
 exact ⟨rfl, rfl⟩

theorem insertion_one (v : Value) (n : Nat) (w : World) (hn : n ≤ 1) :
  Calls Tryz.prog 161 #[v, .int .i64 0, .int .i64 n] w fun e w' => e = .returned (.tuple #[]) ∧ w = w' := by
 go_enter Tryz.func161, Tryz.ntmps161
 go_wp2_with fail
 go_loop [6] (fun i => i = .int .i64 1) (fun _ => 0)
 case atStart => rfl
 case round =>
  subst hrel
  go_wp2_with fail
  go_end0
  exact ⟨rfl, rfl⟩

theorem pdq_one (v : Value) (n : Nat) (k : Int) (w : World) (hn : n ≤ 1) :
  Calls Tryz.prog 138 #[v, .int .i64 0, .int .i64 n, .int .i64 k] w fun e w' => e = .returned (.tuple #[]) ∧ w = w' := by
 go_enter Tryz.func138, Tryz.ntmps138
 go_wp2_with fail
 go_loop [1, 2] (fun a b => a = .int .i64 0 ∧ b = .int .i64 n) (fun _ _ => 0)
 case atStart => exact ⟨rfl, rfl⟩
 case round =>
  obtain ⟨rfl, rfl⟩ := hrel
  go_wp2_with fail
  refine (insertion_one _ _ _ hn).mono ?_
  rintro e w' ⟨rfl, rfl⟩
  go_wp2_with fail
  (try simp only [Exit.inBlock, Exit.then])
  refine bodyPost_ret (results_none rfl _ _ _) rfl ?_
  exact ⟨rfl, rfl⟩

end Go.Proofs.YtjghfgaincnegaaGreatDoor

namespace Go.Proofs.YtjghfgaincnegaaGreatDoor
open Go Go.RowKit

def tauT : ByteArray := ⟨#[116, 97, 117]⟩
end Go.Proofs.YtjghfgaincnegaaGreatDoor
