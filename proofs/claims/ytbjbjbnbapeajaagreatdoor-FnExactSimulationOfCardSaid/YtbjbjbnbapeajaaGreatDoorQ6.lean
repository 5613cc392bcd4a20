/-
  Tables of truths for pairs of states: the reference's rounds. Plain.
  The two comparisons that the implementation sorts by: labels (tau first), edges.
  The library's sorts as lts calls them: labels sorted and made one, edges that stand in order already.
  Regions that draw their order, whose operations are quiet in a class of worlds, but for a tail in one forced order.
  What the implementation's internal and visible compute.
  Simulations of all three kinds: what answers an edge, which pairs are there at the start, the list of pairs. Plain.
  The reference's place of a text among texts.
  The reference's l17Targets (plain simulations): the states that may answer an edge.
-/
import Derived.Test.YtbjbjbnbapeajaaGreatDoorQ1
import Derived.Test.YtbjbjbnbapeajaaGreatDoorQ3
import Derived.Test.YtbjbjbnbapeajaaGreatDoorQ5
import Derived.Test.YtbjbjbnbapeajaaGreatDoorQ4
import Derived.Lib.Bytealg
import Derived.Sort.Grow
import Derived.Shelf.SlSortCmp.NoneTotal
import Derived.Sort.OwnSorted
import Derived.BigQuiet
import Derived.StillTail
import Derived.Maps.AppendAt
import Derived.Deep.RegionHeld3
namespace Go.Proofs.YtbjbjbnbapeajaaGreatDoor
open Go Go.RowKit

/-- The rows of a table. -/
def rowG (P : Nat) (N : PairSet) (x : Nat) : List Value := (List.range P).map fun (y : Nat) => Value.bool (N x y)
def tabG (S P : Nat) (N : PairSet) : List (List Value) := (List.range S).map fun (x : Nat) => rowG P N x
theorem rowG_len (P : Nat) (N : PairSet) (x : Nat) : (rowG P N x).length = P := by simp [rowG]
theorem tabG_len (S P : Nat) (N : PairSet) : (tabG S P N).length = S := by simp [tabG]
theorem rowG_succ (P : Nat) (N : PairSet) (x : Nat) : rowG (P + 1) N x = rowG P N x ++ [.bool (N x P)] := by
 unfold rowG
 rw [List.range_succ, List.map_append]
 rfl
theorem tabG_succ (S P : Nat) (N : PairSet) : tabG (S + 1) P N = tabG S P N ++ [rowG P N S] := by
 unfold tabG
 rw [List.range_succ, List.map_append]
 rfl
theorem tabG_get {S P : Nat} {N : PairSet} {x : Nat} (h : x < (tabG S P N).length) : (tabG S P N)[x] = rowG P N x := by simp [tabG]
/-- The states that may answer an edge with a label from y. -/
def tgtG (t : Lts) (y : Int) (l : ByteArray) (w : Int) : Bool := t.edges.any fun f => f.src == y && ((labAt t f).toList == l.toList) && f.dst == w
/-- .. by the first n edges. -/
def tgtTo (t : Lts) (y : Int) (l : ByteArray) (n : Nat) (w : Int) : Bool := (t.edges.take n).any fun f => f.src == y && ((labAt t f).toList == l.toList) && f.dst == w
theorem tgtTo_zero (t : Lts) (y : Int) (l : ByteArray) (w : Int) : tgtTo t y l 0 w = false := rfl
theorem tgtTo_all (t : Lts) (y : Int) (l : ByteArray) (w : Int) : tgtTo t y l t.edges.length w = tgtG t y l w := by unfold tgtTo tgtG; rw [List.take_length]
theorem tgtTo_succ {t : Lts} {y : Int} {l : ByteArray} {n : Nat} (h : n < t.edges.length) (w : Int) : tgtTo t y l (n + 1) w = (tgtTo t y l n w || (t.edges[n].src == y && ((labAt t t.edges[n]).toList == l.toList) && t.edges[n].dst == w)) := by
 unfold tgtTo
 rw [List.take_succ_eq_append_getElem h, List.any_append]
 simp
def tgtL (P : Nat) (t : Lts) (y : Int) (l : ByteArray) (n : Nat) : List Bool := (List.range P).map fun (w : Nat) => tgtTo t y l n w
theorem tgtL_get {P : Nat} {t : Lts} {y : Int} {l : ByteArray} {n i : Nat} (h : i < (tgtL P t y l n).length) : (tgtL P t y l n)[i] = tgtTo t y l n i := by simp [tgtL]
theorem tgtL_zero (P : Nat) (t : Lts) (y : Int) (l : ByteArray) : tgtL P t y l 0 = List.replicate P false := by
 unfold tgtL
 apply List.ext_getElem (by simp)
 intro i h1 h2
 simp [tgtTo_zero]
theorem tgtL_hit {P : Nat} {t : Lts} {y : Int} {l : ByteArray} {n : Nat} (h : n < t.edges.length) {d : Nat} (hd : (d : Int) = t.edges[n].dst) (h1 : t.edges[n].src = y) (h2 : (labAt t t.edges[n]).toList = l.toList) : tgtL P t y l (n + 1) = (tgtL P t y l n).set d true := by
 apply List.ext_getElem (by simp [tgtL])
 intro i hi1 hi2
 rw [List.getElem_set, tgtL_get, tgtL_get, tgtTo_succ h, h1, h2, beq_self_eq_true, beq_self_eq_true, ← hd]
 by_cases e : d = i
 ·subst e; simp
 ·rw [if_neg e]
  have : ((d : Int) == (i : Int)) = false := by simp; omega
  simp [this]
theorem tgtL_miss {P : Nat} {t : Lts} {y : Int} {l : ByteArray} {n : Nat} (h : n < t.edges.length) (h1 : ¬ (t.edges[n].src = y ∧ (labAt t t.edges[n]).toList = l.toList)) : tgtL P t y l (n + 1) = tgtL P t y l n := by
 apply List.ext_getElem (by simp [tgtL])
 intro i hi1 hi2
 rw [tgtL_get, tgtL_get, tgtTo_succ h]
 have : (t.edges[n].src == y && ((labAt t t.edges[n]).toList == l.toList)) = false := by
  rw [Bool.eq_false_iff]
  intro hb
  rw [Bool.and_eq_true] at hb
  exact h1 ⟨eq_of_beq hb.1, eq_of_beq hb.2⟩
 rw [this]
 simp
end Go.Proofs.YtbjbjbnbapeajaaGreatDoor

namespace Go.Proofs.YtbjbjbnbapeajaaGreatDoor
open Go Go.RowKit

/-- What a call that turns nothing leaves: draws, and blocks behind. -/
theorem grow_of_below {w w' : World} (hb : Below w.heap.size w w') (hd : w.drawn ≤ w'.drawn) : ∃ q os, w' = Go.Sort.grow (w.drewN q) os := by
 refine ⟨w'.drawn - w.drawn, w'.heap.extract w.heap.size w'.heap.size, ?_⟩
 have hh : w'.heap = w.heap ++ w'.heap.extract w.heap.size w'.heap.size := by
  apply Array.ext_getElem?
  intro i
  by_cases hi : i < w.heap.size
  ·rw [hb.block i hi, Array.getElem?_append_left hi]
  ·rw [Array.getElem?_append_right (by omega), Array.getElem?_extract]
   have := hb.size
   by_cases h2 : i < w'.heap.size
   ·rw [if_pos (by omega)]; congr 1; omega
   ·rw [if_neg (by omega), Array.getElem?_eq_none (by omega)]
 obtain ⟨h1, h2, h3⟩ := (⟨hb.os, hb.tape, hb.output⟩ : w'.os = w.os ∧ w'.tape = w.tape ∧ w'.output = w.output)
 cases w; cases w'
 simp only at h1 h2 h3 hh hd
 subst h1 h2 h3
 simp only [Go.Sort.grow, World.drewN, World.mk.injEq, true_and, and_true]
 exact ⟨hh, by omega⟩

/-- How labels are compared: tau first, else by their bytes. -/
def cmpL (a b : List UInt8) : Int := if a == b then 0 else if a == tauB then -1 else if b == tauB then 1 else Lib.compareBytes a b

theorem compareLabels_any (a b : ByteArray) (w : World) : Calls Tryz.prog 82 #[.string a, .string b] w fun e w' => e = .returned (.int .i64 (cmpL a.toList b.toList)) ∧ w = w' := by
 have HC := Lib.hid (fun w' => Tryz.strings_Compare a b w')
 cases h1 : (a.toList == b.toList)
 ·cases h2 : (a.toList == tauB)
  ·cases h3 : (b.toList == tauB)
   ·have HF : Hid (cmpL a.toList b.toList = Lib.compareBytes a.data.toList b.data.toList) := by unfold Hid cmpL; rw [h1, h2, h3, Lib.toList_data, Lib.toList_data]; rfl
    unfold tauB at h2 h3
    go_enter Tryz.func82, Tryz.ntmps82
    go_wp2_with fail
    refine Calls.mono (HC.out _) ?_
    rintro e w' ⟨rfl, rfl⟩
    go_wp2
    go_ret
    exact ⟨ret_int HF.out.symm, rfl⟩
   ·have HF : Hid (cmpL a.toList b.toList = 1) := by unfold Hid cmpL; rw [h1, h2, h3]; rfl
    unfold tauB at h2 h3
    go_enter Tryz.func82, Tryz.ntmps82
    go_wp2
    go_ret
    exact ⟨ret_int HF.out.symm, rfl⟩
  ·have HF : Hid (cmpL a.toList b.toList = -1) := by unfold Hid cmpL; rw [h1, h2]; rfl
   unfold tauB at h2
   go_enter Tryz.func82, Tryz.ntmps82
   go_wp2
   go_ret
   exact ⟨ret_int HF.out.symm, rfl⟩
 ·have HF : Hid (cmpL a.toList b.toList = 0) := by unfold Hid cmpL; rw [h1]; rfl
  go_enter Tryz.func82, Tryz.ntmps82
  go_wp2
  go_ret
  exact ⟨ret_int HF.out.symm, rfl⟩

theorem swo_of_total {α : Type} {lt : α → α → Bool} (hi : ∀ x, lt x x = false) (ht : ∀ x y z, lt x y = true → lt y z = true → lt x z = true) (htri : ∀ x y, lt x y = false → lt y x = false → x = y) : Go.Sort.SWO lt where
 irrefl := hi
 trans := ht
 ntrans x y z h1 h2 := by
  cases h : lt x z with
  | false => rfl
  | true =>
   cases h3 : lt y x with
   | true => rw [ht y x z h3 h] at h2; cases h2
   | false =>
    have e := htri x y h1 h3
    subst e
    rw [h] at h2
    cases h2

theorem cmpB_lt : ∀ a b : List UInt8, decide (Lib.compareBytes a b < 0) = Op.bytesLess a b
 | [], [] => by simp [Lib.compareBytes, Op.bytesLess]
 | [], _ :: _ => by simp [Lib.compareBytes, Op.bytesLess]
 | _ :: _, [] => by simp [Lib.compareBytes, Op.bytesLess]
 | a :: x, b :: y => by
  rw [Lib.compareBytes, Op.bytesLess, ← cmpB_lt x y]
  by_cases h1 : a < b
  ·simp [h1]
  ·by_cases h2 : b < a
   ·have h3 : ¬ a = b := fun e => by subst e; exact h1 h2
    simp [h1, h2, h3]
   ·have h3 : a = b := UInt8.le_antisymm (UInt8.not_lt.1 h2) (UInt8.not_lt.1 h1)
    simp [h3]
/-- The strict order of labels: tau first. -/
def lessL (a b : List UInt8) : Bool := !(a == b) && (a == tauB || (!(b == tauB) && Op.bytesLess a b))
theorem ltOf_cmpL : ltOf cmpL = lessL := by
 funext a b
 unfold ltOf cmpL lessL
 cases h1 : (a == b)
 ·cases h2 : (a == tauB)
  ·cases h3 : (b == tauB)
   ·simp [cmpB_lt]
   ·simp
  ·simp
 ·simp
theorem lessL_iff (a b : List UInt8) : lessL a b = true ↔ a ≠ b ∧ (a = tauB ∨ (b ≠ tauB ∧ a < b)) := by
 unfold lessL
 rw [less_lt]
 simp
theorem lessL_irrefl (a : List UInt8) : lessL a a = false := by unfold lessL; simp
theorem lessL_trans (a b c : List UInt8) (h : lessL a b = true) (k : lessL b c = true) : lessL a c = true := by
 rw [lessL_iff] at *
 obtain ⟨h1, h2⟩ := h
 obtain ⟨k1, k2⟩ := k
 rcases h2 with h2 | ⟨h2, h3⟩
 ·refine ⟨fun e => ?_, .inl h2⟩
  rcases k2 with k2 | ⟨k2, k3⟩
  ·exact h1 (by rw [h2, k2])
  ·exact k2 (by rw [← e, h2])
 ·rcases k2 with k2 | ⟨k2, k3⟩
  ·exact absurd k2 h2
  ·exact ⟨fun e => List.lt_irrefl a (by rw [e] at h3 ⊢; exact List.lt_trans h3 k3), .inr ⟨k2, List.lt_trans h3 k3⟩⟩
theorem lessL_tri (a b : List UInt8) (h : lessL a b = false) (k : lessL b a = false) : a = b := by
 by_cases e : a = b
 ·exact e
 ·exfalso
  have h1 := fun x => (Bool.eq_false_iff.1 h) ((lessL_iff a b).2 x)
  have k1 := fun x => (Bool.eq_false_iff.1 k) ((lessL_iff b a).2 x)
  by_cases ta : a = tauB
  ·exact h1 ⟨e, .inl ta⟩
  ·by_cases tb : b = tauB
   ·exact k1 ⟨fun x => e x.symm, .inl tb⟩
   ·have h2 : ¬ a < b := fun x => h1 ⟨e, .inr ⟨tb, x⟩⟩
    have h3 : ¬ b < a := fun x => k1 ⟨fun x => e x.symm, .inr ⟨ta, x⟩⟩
    exact e (List.le_antisymm (List.not_lt.1 h3) (List.not_lt.1 h2))
theorem swoL : Go.Sort.SWO (ltOf cmpL) := by rw [ltOf_cmpL]; exact swo_of_total lessL_irrefl lessL_trans lessL_tri

end Go.Proofs.YtbjbjbnbapeajaaGreatDoor

namespace Go.Proofs.YtbjbjbnbapeajaaGreatDoor
open Go Go.RowKit

def mkB (l : List UInt8) : ByteArray := ⟨l.toArray⟩
theorem mkB_data (b : ByteArray) : mkB b.data.toList = b := by cases b; simp [mkB]
theorem mkB_list (l : List UInt8) : (mkB l).data.toList = l := by simp [mkB]
theorem mkB_toList (l : List UInt8) : (mkB l).toList = l := by rw [Lib.toList_data, mkB_list]
/-- A list of labels, sorted and each once. -/
def sortL (ls : List ByteArray) : List ByteArray := ((ls.map (·.data.toList)).mergeSort fun x y => !lessL y x).map mkB
def labSet (ls : List ByteArray) : List ByteArray := (Lib.compact ((ls.map (·.data.toList)).mergeSort fun x y => !lessL y x)).map mkB
theorem map_enc (zs : List (List UInt8)) : (zs.map mkB).map Value.string = zs.map encStr := by
 rw [List.map_map]
 apply List.map_congr_left
 intro x _
 simp [mkB, encStr]
theorem labSet_eq {ls m : List ByteArray} (hm : (m.map (·.data.toList)).Pairwise fun a b => lessL a b = true) (hmem : ∀ x, x ∈ ls ↔ x ∈ m) : labSet ls = m := by
 have hs : ((ls.map (·.data.toList)).mergeSort fun x y => !lessL y x).Pairwise fun a b => a = b ∨ lessL a b = true := by
  have h1 := List.pairwise_mergeSort (le := fun x y : List UInt8 => !lessL y x) (fun a b c h1 h2 => by
   simp only [Bool.not_eq_true'] at *
   have := (swo_of_total lessL_irrefl lessL_trans lessL_tri).ntrans c b a h2 h1
   exact this) (fun a b => by
   cases h : lessL b a with
   | false => simp
   | true =>
    cases h2 : lessL a b with
    | false => simp
    | true => have := lessL_trans a b a h2 h; rw [lessL_irrefl] at this; cases this) (ls.map (·.data.toList))
  refine h1.imp fun {a b} h => ?_
  simp only [Bool.not_eq_true'] at h
  cases h2 : lessL a b with
  | true => exact .inr rfl
  | false => exact .inl (lessL_tri a b h2 h)
 obtain ⟨h1, h2⟩ := compact_is (fun a b : List UInt8 => lessL a b = true) lessL_trans _ hs
 have h3 : Lib.compact ((ls.map (·.data.toList)).mergeSort fun x y => !lessL y x) = m.map (·.data.toList) := by
  refine rise_unique (fun a b : List UInt8 => lessL a b = true) (fun a h => by rw [lessL_irrefl] at h; cases h) (fun a b h k => by have := lessL_trans a b a h k; rw [lessL_irrefl] at this; cases this) _ _ h1 hm fun x => ?_
  rw [h2, List.mem_mergeSort, List.mem_map, List.mem_map]
  constructor
  ·rintro ⟨b, hb, rfl⟩; exact ⟨b, (hmem b).1 hb, rfl⟩
  ·rintro ⟨b, hb, rfl⟩; exact ⟨b, (hmem b).2 hb, rfl⟩
 unfold labSet
 rw [h3, List.map_map]
 have : (mkB ∘ fun x : ByteArray => x.data.toList) = id := by funext b; exact mkB_data b
 rw [this, List.map_id]

theorem enters_cmpL : ∀ args w, (callFunc 82 args).run Tryz.prog w = .ok (.enter 82 args) w := enters_of Tryz.func82 (by kernel_rfl) rfl
/-- slices.SortFunc of labels, then slices.Compact, at a list of the call's own. -/
theorem SortL_own (base : Nat) (v : Value) (xs : List ByteArray) (w : World) (ho : w.ownsRow base 9 1 v xs.length (xs.map Value.string)) (hz : xs.length ≤ 1048576) :
  Calls Tryz.prog 81 #[v, .func (.func 82) #[] #[]] w fun e w' => e = .returned (.tuple #[]) ∧ w'.ownsRow base 9 1 v xs.length ((sortL xs).map Value.string) ∧ w.grownBy w' v.ownBlock := by
 unfold sortL
 rw [map_enc]
 rw [← Lib.map_encStr] at ho
 have hl : (xs.map (·.data.toList)).length = xs.length := List.length_map ..
 rcases ho.2 with ⟨rfl, h0⟩ | ⟨g, cap, cur, rfl, hb, hg, hn, hm, hs, ht⟩
 ·have hx : xs = [] := List.eq_nil_of_length_eq_zero h0
  subst hx
  refine (Tryz.slices_SortFunc_none_f81 (α := List UInt8) none 0 _ w).mono ?_
  rintro e w' ⟨rfl, rfl⟩
  exact ⟨rfl, by simpa using ho, grown_refl _ _⟩
 ·rw [Nat.mul_one] at ht
  have hz2 : (xs.map (·.data.toList)).toArray.size = xs.length := by simp
  have hc := Tryz.slices_SortFunc_total_f81 (α := List UInt8) encStr (fun _ => rfl) cmpL swoL 82 #[] g 0 cap (xs.map (·.data.toList)).toArray w enters_cmpL
   (fun m os dk _ x y => (compareLabels_any (mkB x) (mkB y) _).mono fun e w' ⟨h1, h2⟩ => ⟨by rw [h1, mkB_toList, mkB_toList], 0, #[], by rw [← h2, Go.Sort.grow_empty]; rfl⟩)
   (holds_of_block hg (by rw [hl]; exact ht)) (Array.getElem?_eq_some_iff.1 hg).1 (by rw [hz2]; omega) (by rw [ltOf_cmpL]; exact lessL_tri)
  rw [hz2, ltOf_cmpL] at hc
  refine hc.mono ?_
  rintro e w' ⟨rfl, n, os, rfl⟩
  refine ⟨rfl, ?_, grownBy_sorted _⟩
  have := ownsRow_sorted (w := w) (n := n) (os := os) (ss := xs.map (·.data.toList)) (ts := (xs.map (·.data.toList)).mergeSort fun x y => !lessL y x) (List.length_mergeSort _) hb hg (by rw [hl]; exact hn) hm hs
  rw [hl] at this
  exact this

theorem CompactL_own (base : Nat) (v : Value) (xs : List ByteArray) (w : World) (ho : w.ownsRow base 9 1 v xs.length ((sortL xs).map Value.string)) :
  Calls Tryz.prog 83 #[v] w fun e w' => ∃ v', e = .returned v' ∧ w'.ownsRow base 9 1 v' (labSet xs).length ((labSet xs).map Value.string) ∧ w.grownBy w' v.ownBlock := by
 unfold labSet
 unfold sortL at ho
 rw [map_enc] at ho ⊢
 rw [List.length_map]
 obtain ⟨zs, hzs⟩ : ∃ zs, zs = (xs.map (·.data.toList)).mergeSort fun x y => !lessL y x := ⟨_, rfl⟩
 have hl : zs.length = xs.length := by rw [hzs, List.length_mergeSort, List.length_map]
 rw [← hzs] at ho ⊢
 have hle := Lib.compact_length_le zs
 rcases ho.2 with ⟨rfl, h0⟩ | ⟨g, cap, cur, rfl, hb, hg, hn, hm, hs, ht⟩
 ·have hx : zs = [] := List.eq_nil_of_length_eq_zero (by omega)
  rw [hx]
  refine (Tryz.slices_Compact_string_empty none 0 w).mono ?_
  rintro e w' ⟨rfl, rfl⟩
  exact ⟨_, rfl, World.ownsRow_nil _ _ _ _, grown_refl _ _⟩
 ·rw [Nat.mul_one] at ht
  have hm2 : cap ≤ 9223372036854775807 := by simpa [maxLen] using hm
  have hc := Tryz.slices_Compact_string g 0 cap zs w (holds_of_block hg (by rw [hl]; exact ht)) (by omega) (by omega)
  rw [hl] at hc
  refine hc.mono ?_
  rintro e w' ⟨rfl, q, rfl⟩
  have hc2 := Lib.ownsRow_putRow (q := q) (k := (Lib.compact zs).length) (ys := Lib.compact zs ++ List.replicate (xs.length - (Lib.compact zs).length) []) ho (by simp; omega) (by omega)
  rw [List.take_left] at hc2
  exact ⟨_, rfl, hc2, grownBy_put _⟩

end Go.Proofs.YtbjbjbnbapeajaaGreatDoor

namespace Go.Proofs.YtbjbjbnbapeajaaGreatDoor
open Go Go.RowKit

section
variable {P : Program} {ops : Array Oper} {md : Region.Mode} {C : World → Prop}

/-- Whatever order is picked, of the operations ahead of number n; then L. -/
def headAny (P : Program) (md : Region.Mode) (ops : Array Oper) (C : World → Prop) (n : Nat) (L : Array Bool → Act → Prop) : Nat → Array Bool → Act → Prop
 | 0, listed, a => L listed a
 | f + 1, listed, a => Region.ready md ops listed ≠ [] ∧ ∀ i ∈ Region.ready md ops listed, i < n ∧ qOp P ops C i (headAny P md ops C n L f (listed.setIfInBounds i true)) a

theorem wpAny_of_headAny {n g : Nat} {L : Array Bool → Act → Prop} {Q : Exit → Act → World → Prop} (hL : ∀ listed a w, C w → L listed a → wpAny P md ops Q g listed a w) (f : Nat) :
  ∀ (listed : Array Bool) (a : Act) (w : World), C w → headAny P md ops C n L f listed a → wpAny P md ops Q (f + g) listed a w := by
 induction f with
 | zero => intro listed a w hw h; rw [Nat.zero_add]; exact hL _ _ _ hw h
 | succ f ih =>
  intro listed a w hw h
  rw [show f + 1 + g = (f + g) + 1 from by omega]
  exact ⟨fun h0 => absurd h0 h.1, fun i hi => wpOp_of_qOp hw (fun a' w' hw' h' => ih _ a' w' hw' h') (h.2 i hi).2⟩

theorem headAny_first {n i : Nat} {oi : Oper} {v : Value} {L : Array Bool → Act → Prop} (hi : ops[i]? = some oi) (hsel : ∀ (j : Nat) (o : Oper) cs b, ops[j]? = some o → o.op ≠ .select cs b)
  (hs : Region.sinkB md ops n = true) (hc : Region.chainB md ops n = true) (hn : n < ops.size) (hin : i < n) (hdone : ∀ listed a, L listed a → ∀ j ∈ Region.ready md ops listed, n ≤ j) (f : Nat) :
  ∀ (listed : Array Bool) (a : Act), HeadInv md ops n listed →
   (∀ j oj, ops[j]? = some oj → j ≠ i → listed.getD j true = false → (∀ e ∈ oj.after, Region.binds md e = true → e.on ≠ i) → oi.apart ops oj = true) →
   i ∈ Region.ready md ops listed → YieldsIn P ops C oi v a → headAny P md ops C n L f (listed.setIfInBounds i true) (a.put oi.dst v) → headAny P md ops C n L (f + 1) listed a := by
 have behind : ∀ listed : Array Bool, HeadInv md ops n listed → i ∈ Region.ready md ops listed → ∀ j ∈ Region.ready md ops listed, j < n := by
  intro listed inv hr j hj
  rcases Nat.lt_or_ge j n with h | h
  ·exact h
  ·exact absurd hj (tail_waits hs hc hn inv _ i rfl hin (mem_ready.1 hr).1 j h)
 induction f with
 | zero =>
  intro listed a inv _ hr hy H
  refine ⟨fun h => (by rw [h] at hr; cases hr), fun j hj => ?_⟩
  have hjn := behind listed inv hr j hj
  refine ⟨hjn, ?_⟩
  by_cases hji : j = i
  ·subst hji; exact hy.qOp hi H
  ·have := hdone _ _ H j (ready_mono hj hji)
   omega
 | succ f ih =>
  intro listed a inv hfree hr hy H
  refine ⟨fun h => (by rw [h] at hr; cases hr), fun j hj => ?_⟩
  have hjn := behind listed inv hr j hj
  refine ⟨hjn, ?_⟩
  by_cases hji : j = i
  ·subst hji; exact hy.qOp hi H
  ·obtain ⟨hjun, oj, hoj, hall⟩ := mem_ready.1 hj
   have hnot : ∀ e ∈ oj.after, Region.binds md e = true → e.on ≠ i := fun e he hb heq => by
    have h1 := hall e he hb
    rw [heq, getD_both (mem_ready.1 hr).1] at h1
    cases h1
   have hrest := qOp_put hoj (hfree j oj hoj hji hjun hnot) (fun cs b => hsel i oi cs b hi) (fun cs b => hsel j oj cs b hoj) hy (H.2 j (ready_mono hj hji)).2
   refine qOp_mono (fun a' h3 => ih (listed.setIfInBounds j true) a' (inv.set hj hjn) (fun k ok hk hki hun hno => ?_) (ready_mono hr (Ne.symm hji)) h3.1 ?_) hrest
   ·refine hfree k ok hk hki ?_ hno
    by_cases hjk : j = k
    ·subst hjk; exact hjun
    ·rw [getD_set_ne true hjk] at hun; exact hun
   ·rw [Array.setIfInBounds_comm _ _ hji]
    exact h3.2

theorem headAny_lex {n g : Nat} {L : Act → Prop} (hsel : Region.noSelect ops = true) (hs : Region.sinkB md ops n = true) (hc : Region.chainB md ops n = true) (hn : n < ops.size) (l : List Oper) :
  ∀ (k : Nat) (listed : Array Bool) (a : Act), (∀ j, j < l.length → l[j]? = ops[k + j]?) → k + l.length = n → HeadInv md ops n listed → Region.lexHead md ops g l.length k listed = true → wpQuiet P ops C L l a →
   headAny P md ops C n (fun listed' a' => Region.seqB md ops g n listed' = true ∧ L a') l.length listed a := by
 induction l with
 | nil =>
  intro k listed a _ hk _ hB h
  obtain rfl : k = n := by simpa using hk
  exact ⟨by simpa [Region.lexHead] using hB, h⟩
 | cons o l ih =>
  intro k listed a hl hk inv hB h
  have h0 : ops[k]? = some o := by simpa using (hl 0 (by simp)).symm
  simp only [List.length_cons, Region.lexHead, Bool.and_eq_true] at hB
  have hkn : k < n := by simp only [List.length_cons] at hk; omega
  have hr : k ∈ Region.ready md ops listed := by simpa using hB.1.1
  obtain ⟨v, hy, hK⟩ := yieldsIn_of_qOp h0 (show qOp P ops C k (wpQuiet P ops C L l) a by unfold qOp; simp only [h0]; exact h)
  exact headAny_first h0 (Region.noSelect_spec hsel) hs hc hn hkn (fun _ _ hL => seqB_ready hL.1) l.length listed a inv (Region.free_spec h0 hB.1.2) hr hy
   (ih (k + 1) _ _ (fun j hj => by have := hl (j + 1) (by simp; omega); simpa [Nat.add_assoc, Nat.add_comm 1 j] using this) (by simp only [List.length_cons] at hk; omega) (inv.set hr hkn) hB.2 hK)

/-- The operations ahead of number n are quiet in the class C; the others come in their order, from whatever world of the class. -/
theorem wp_region_quiet_tail {id : Nat} {Q : Exit → Act → World → Prop} {a : Act} {w : World} {l : List Oper} (n : Nat) (hm : P.follows .mixedOrders = true) (hB : Region.lexTailB .any l.toArray n = true) (hC : C { w with drawn := w.drawn + 1 })
  (h : wpQuiet P l.toArray C (fun a' => ∀ w', C w' → wpList P l.toArray Q (l.drop n) a' w') (l.take n) a) : (Code.region id l.toArray true).wp P Q a w := by
 simp only [Region.lexTailB, Bool.and_eq_true, decide_eq_true_eq] at hB
 obtain ⟨⟨⟨⟨hsel, hn⟩, hs⟩, hc⟩, hlex⟩ := hB
 have hn' : n < l.length := by simpa using hn
 have htl : (l.take n).length = n := by simp; omega
 have hdl : (l.drop n).length = l.toArray.size - n := by simp
 have inv0 : HeadInv .any l.toArray n (Array.replicate l.toArray.size false) :=
  ⟨by simp, fun j oj _ hl => (by rw [getD_replicate_false] at hl; cases hl), fun t _ ht => getD_in (by simpa using ht) (getD_replicate_false _ _)⟩
 have H := headAny_lex (C := C) (md := .any) (g := l.toArray.size - n) hsel hs hc hn (l.take n) 0 _ a (fun j hj => by
  have hj' : j < n := by rw [htl] at hj; exact hj
  simp [hj']) (by simpa using htl) inv0 (by rw [htl]; exact hlex) h
 refine wp_region_any hm ?_
 have := wpAny_of_headAny (Q := Q) (g := l.toArray.size - n) (fun listed a' w' hw' hL => by
  have := wpAny_of_seq (md := .any) (Q' := Q) (l.drop n) n listed a' w' (fun j => by simp [List.getElem?_drop]) (by rw [hdl]; exact hL.1) (hL.2 w' hw')
  rwa [hdl] at this) _ _ _ _ hC H
 rw [htl, show n + (l.toArray.size - n) = l.toArray.size from by omega] at this
 exact this
end

/-- At the class of the later worlds. -/
theorem wp_region_later_tail {P : Program} {id : Nat} {Q : Exit → Act → World → Prop} {a : Act} {w : World} {l : List Oper} (n : Nat) (hm : P.follows .mixedOrders = true) (hB : Region.lexTailB .any l.toArray n = true)
  (h : wpQuiet P l.toArray (fun w' => ∃ g : Later w, w' = g.w) (fun a' => ∀ w', (∃ g : Later w, w' = g.w) → wpList P l.toArray Q (l.drop n) a' w') (l.take n) a) : (Code.region id l.toArray true).wp P Q a w :=
 wp_region_quiet_tail (C := fun w' => ∃ g : Later w, w' = g.w) n hm hB ⟨⟨_, (Below.refl _ w).drew⟩, rfl⟩ h

end Go.Proofs.YtbjbjbnbapeajaaGreatDoor

namespace Go.Proofs.YtbjbjbnbapeajaaGreatDoor
open Go Go.RowKit

theorem cell_num {w : World} {base e g n cap : Nat} {c : List Int} (h : w.ownsRow base e 1 (.slice (some ⟨g, 0, none⟩) n cap) n (c.map (Value.int .i64))) {i : Nat} (hi : i < n) : w.cell? ⟨g, i, none⟩ = some (.int .i64 (c.getD i 0)) := by
 have h1 := h.cellAt i (by omega)
 have hl : c.length = n := by have := h.1; simpa using this
 rw [h1, List.getElem?_map, List.getElem?_eq_getElem (by omega), List.getD_eq_getElem?_getD, List.getElem?_eq_getElem (by omega)]
 rfl
def tauT : ByteArray := ⟨#[116, 97, 117]⟩
theorem tau_first {t : Lts} (hv : Valid t) : ∃ h : 0 < t.labels.length, t.labels[0] = tauT :=
 ⟨hv.labels.pos, data_inj (by rw [← Lib.toList_data, hv.labels.first hv.labels.pos]; rfl)⟩
theorem info_int64y : (Tryz.prog.info? 2).map (fun i => (i.zero, i.size, i.bytes)) = some (some (.int .i64 0), 1, 8) := by kernel_rfl

set_option maxRecDepth 100000 in
set_option maxHeartbeats 4000000 in
theorem internal_any (lo lo2 : Nat) (t : Lts) (lv ev sv : Value) (S : List Int) (w : World) (hv : Valid t) (hl : SliceK 1 encS lo w lv t.labels) (he : SliceK 3 encE lo w ev t.edges) (hs : SliceK 1 encI lo2 w sv S) (hin : ∀ x ∈ S, 0 ≤ x ∧ x < t.states) (hnd : S.Nodup) :
  Calls Tryz.prog 141 #[.agg #[.int .i64 t.states, .int .i64 t.initial, lv, ev], sv] w (MadeNums (setL t.states (clos t fun y => y ∈ S)) w) := by
 have HV := Lib.hid hv
 have HIN := Lib.hid hin
 have HND := Lib.hid hnd
 have hS40 := few_states hnd hin hv.st1
 have HL := Lib.hid hl
 have HE := Lib.hid he
 obtain ⟨al, cl, rfl, -, -, -⟩ := hl
 obtain ⟨ae, ce, rfl, -, -, -⟩ := he
 obtain ⟨i0, hi, hz0, hz1, hz2⟩ := info_parts info_int64y
 obtain ⟨wB, hwB⟩ : ∃ wB, wB = w.alloc (.cells #[.int .i64 t.states, .int .i64 t.initial, .slice al t.labels.length cl, .slice ae t.edges.length ce] 29) := ⟨_, rfl⟩
 have hb0 : Below w.heap.size w wB := by rw [hwB]; exact (Below.refl _ _).alloc (Nat.le_refl _) _
 have hx0 : Blk wB w.heap.size [.int .i64 t.states, .int .i64 t.initial, .slice al t.labels.length cl, .slice ae t.edges.length ce] 29 := by rw [hwB]; exact Blk.new w _ _
 have HX0 := Lib.hid hx0
 have HB0 := Lib.hid hb0
 have HWB := Lib.hid hwB
 have HC := Lib.hid (Clone_own lo2 sv S wB (hs.below hb0) (by omega))
 obtain ⟨bx, hbx⟩ : ∃ bx, bx = w.heap.size := ⟨_, rfl⟩
 rw [← hbx] at HX0
 have HBX := Lib.hid hbx
 clear hv hin hnd hs hb0 hx0 hwB hbx
 go_enter Tryz.func141, Tryz.ntmps141
 go_wp2_with fail
 rw [← HWB.out, ← HBX.out]
 refine Calls.mono HC.out ?_
 rintro e1 w1 ⟨v1, rfl, ho1, hb1⟩
 obtain ⟨B, hB⟩ : ∃ B, B = wB.heap.size := ⟨_, rfl⟩
 rw [← hB] at ho1
 have hbxB : bx < B := by rw [hB]; exact HX0.out.lt
 have HBB := Lib.hid hB
 have HB1 : Hid (Below B wB w1) := by unfold Hid; rw [hB]; exact hb1
 have HO1 := Lib.hid ho1
 clear HC hb1 ho1 hB
 go_wp2
 go_loopw [5, 6] (fun v i wr => ∃ (k : Nat) (O : List Int), i = .int .i64 k ∧ IntOk t S O k ∧ Below B wB wr ∧ wr.ownsRow B 2 1 v O.length (O.map (Value.int .i64))) (fun _ i _ => 64 - (intOf i).toNat)
 case atStart => exact ⟨0, S, rfl, IntOk.start HND.out, HB1.out, HO1.out⟩
 case round =>
  clear HO1 HB1
  obtain ⟨k, O, rfl, hok, hbl, ho⟩ := hrel
  obtain ⟨wC, rfl⟩ : ∃ wC : World, wC = wr := ⟨_, rfl⟩
  have HOK := Lib.hid hok
  have HBL := Lib.hid hbl
  have HO := Lib.hid ho
  have hO40 := few_states hok.nodup (hok.range HV.out HIN.out) HV.out.st1
  have hkO := hok.upto
  have hsz : B ≤ wC.heap.size := by have := hbl.size; rw [HBB.out]; exact this
  obtain ⟨av, cv, rfl, -, -⟩ := owns_slice ho
  obtain ⟨NO, hNO⟩ : ∃ NO, NO = O.length := ⟨_, rfl⟩
  rw [← hNO] at hO40 hkO HO ⊢
  have HNO := Lib.hid hNO
  clear hok hbl ho hNO
  by_cases hlt : k < NO
  ·have hlO : k < O.length := by rw [← HNO.out]; exact hlt
   have HX := Lib.hid (HX0.out.belowB HBL.out hbxB)
   have hbxw : bx < wC.heap.size := by omega
   have x0 := HX.out.cell 0 rfl
   have x1 := HX.out.cell 1 rfl
   have x2 := HX.out.cell 2 rfl
   have x3 := HX.out.cell 3 rfl
   obtain ⟨g, c, hg, hgw, hcg⟩ : ∃ g c, Value.slice av NO cv = .slice (some ⟨g, 0, none⟩) NO c ∧ g < wC.heap.size ∧ wC.cell? ⟨g, k, none⟩ = some (.int .i64 O[k]) := by
    rcases HO.out.2 with ⟨h, h0⟩ | ⟨g, c, cur, h, -⟩
    ·omega
    ·refine ⟨g, c, h, (HO.out.lt g (by rw [h]; rfl)).2, ?_⟩
     have h1 := HO.out
     rw [h] at h1
     have := cell_num h1 hlt
     rw [List.getD_eq_getElem?_getD, List.getElem?_eq_getElem hlO] at this
     exact this
   simp only [Value.slice.injEq, true_and] at hg
   obtain ⟨rfl, rfl⟩ := hg
   have HIS := Lib.hid (IntIn.start (F := followL t [O[k]] tauT) HOK.out hlO)
   obtain ⟨q, hq⟩ : ∃ q, q = O[k] := ⟨_, rfl⟩
   rw [← hq] at hcg HIS
   have hW : Below wC.heap.size wC ((wC.alloc (.cells #[.int .i64 q] 2)).drew) := ((Below.refl _ _).alloc (Nat.le_refl _) _).drew
   have hbw : Below w.heap.size w wC := HB0.out.trans (HBL.out.mono (by rw [HBB.out]; exact HB0.out.size))
   have hbw2 := hbw.trans (hW.mono hbw.size)
   have HF : Hid (Calls Tryz.prog 105 #[.agg #[.int .i64 t.states, .int .i64 t.initial, .slice al t.labels.length cl, .slice ae t.edges.length ce], .slice (some ⟨wC.heap.size, 0, none⟩) 1 1, .string ⟨#[116, 97, 117]⟩] ((wC.alloc (.cells #[.int .i64 q] 2)).drew) (MadeNums (followL t [q] tauT) ((wC.alloc (.cells #[.int .i64 q] 2)).drew))) := by
    unfold Hid
    refine follow_any lo wC.heap.size t _ _ _ [q] tauT _ HV.out (HL.out.below hbw2) (HE.out.below hbw2) ?_
    have hlit : (wC.alloc (.cells #[.int .i64 q] 2)).ownsRow wC.heap.size 2 1 (.slice (some ⟨wC.heap.size, 0, none⟩) 1 1) 1 [.int .i64 q] := World.ownsRow_lit (size := 1) wC #[.int .i64 q] 1 (Nat.le_refl _) (by decide) rfl
    exact SliceK.of_owns (enc := encI) (e := 2) encI_len rfl (by rw [flat_encI]; exact hlit.drew)
   have W0 := keeps hW hbxw x0
   have W1 := keeps hW hbxw x1
   have W2 := keeps hW hbxw x2
   have W3 := keeps hW hbxw x3
   have W4 := keeps hW hgw hcg
   have HWW := Lib.hid hW
   have hki : (k : Int) < (NO : Int) := by omega
   clear hlO hq hW hbw hbw2
   go_wp2
   go_region_held3 (fun w' => w'.cell? ⟨bx, 0, none⟩ = some (.int .i64 t.states) ∧ w'.cell? ⟨bx, 1, none⟩ = some (.int .i64 t.initial) ∧ w'.cell? ⟨bx, 2, none⟩ = some (.slice al t.labels.length cl) ∧ w'.cell? ⟨bx, 3, none⟩ = some (.slice ae t.edges.length ce) ∧ w'.cell? ⟨g, k, none⟩ = some (.int .i64 q))
    (first
     | (refine ⟨?_, ?_, ?_, ?_, ?_⟩ <;> assumption)
     | go_keep)
    (first
     | (go_at_call 105; refine Calls.mono HF.out ?_; rintro e w9 ⟨v9, rfl, hb9, ho9⟩; have k0 := keeps hb9 (by simp; omega) W0; have k1 := keeps hb9 (by simp; omega) W1; have k2 := keeps hb9 (by simp; omega) W2; have k3 := keeps hb9 (by simp; omega) W3; have k4 := keeps hb9 (by simp; omega) W4; obtain ⟨a9, c9, rfl, -, -⟩ := owns_slice ho9))
   clear W0 W1 W2 W3 W4 x0 x1 x2 x3 k0 k1 k2 k3 k4 hcg
   obtain ⟨BF, hBF⟩ : ∃ BF, BF = wC.heap.size + 1 := ⟨_, rfl⟩
   have hFs : ((wC.alloc (.cells #[.int .i64 q] 2)).drew).heap.size = BF := by rw [hBF]; simp
   rw [hFs] at ho9
   have hb9' : Below wC.heap.size wC w9 := HWW.out.trans (hb9.mono HWW.out.size)
   have HB9 := Lib.hid (HBL.out.trans (hb9'.mono hsz))
   have HO9 := Lib.hid (owns_below HO.out hb9')
   have hFL := followL_len HV.out.most [q] tauT
   have hFm : ∀ x, behindP t [q] 0 x ↔ x ∈ followL t [q] tauT := fun x => by
    obtain ⟨h0, h1⟩ := tau_first HV.out
    have := (followL_is HV.out [q] h0).mem x
    rw [h1] at this
    exact this.symm
   obtain ⟨F, hF⟩ : ∃ F, F = followL t [q] tauT := ⟨_, rfl⟩
   rw [← hF] at ho9 hFL hFm HIS ⊢
   have HFM := Lib.hid hFm
   obtain ⟨NF, hNF⟩ : ∃ NF, NF = F.length := ⟨_, rfl⟩
   rw [← hNF] at ho9 hFL ⊢
   have HNF := Lib.hid hNF
   have HOF := Lib.hid ho9
   have HAP : Hid ((Value.slice a9 NF c9).ownBlock = none ∨ (Value.slice a9 NF c9).ownBlock ≠ (Value.slice (some ⟨g, 0, none⟩) NO cv).ownBlock) := by
    cases hb : (Value.slice a9 NF c9).ownBlock with
    | none => exact .inl rfl
    | some b =>
     refine .inr fun e => ?_
     have h1 := (ho9.lt b hb).1
     have h2 := Option.some.inj e
     simp [Value.ownBlock] at e
     omega
   have HBF := Lib.hid hBF
   clear hb9 hb9' ho9 hF hFs hFm hNF hBF HF HWW HO HBL
   go_wp2
   go_loopw [5, 25] (fun v v25 wr => ∃ (m : Nat) (O' : List Int), v25 = .int .i64 m ∧ m ≤ NF ∧ IntIn t S O' F q k m ∧ Below B wB wr ∧ wr.ownsRow B 2 1 v O'.length (O'.map (Value.int .i64)) ∧ wr.ownsRow BF 2 1 (.slice a9 NF c9) NF (F.map (Value.int .i64))
    ∧ ((Value.slice a9 NF c9).ownBlock = none ∨ (Value.slice a9 NF c9).ownBlock ≠ v.ownBlock)) (fun _ v25 _ => NF - (intOf v25).toNat)
   case atStart => exact ⟨0, O, rfl, Nat.zero_le _, HIS.out, HB9.out, by rw [← HNO.out]; exact HO9.out, HOF.out, HAP.out⟩
   case round =>
    clear HB9 HO9 HIS HOF HAP
    obtain ⟨m, O2, rfl, hm, hin, hbl, ho, hof, hap⟩ := hrel
    have HIN2 := Lib.hid hin
    have HBL := Lib.hid hbl
    have HO := Lib.hid ho
    have HOF := Lib.hid hof
    have HAP := Lib.hid hap
    have hO2 := few_states hin.ok.nodup (hin.ok.range HV.out HIN.out) HV.out.st1
    have hsz2 : B ≤ wr.heap.size := by have := hbl.size; rw [HBB.out]; exact this
    clear hin hbl hap
    by_cases hmF : m < NF
    ·have hmf : m < F.length := by rw [← HNF.out]; exact hmF
     obtain ⟨g9, e9, hg9, hc9⟩ : ∃ g9, a9 = some ⟨g9, 0, none⟩ ∧ g9 < wr.heap.size ∧ wr.cell? ⟨g9, m, none⟩ = some (.int .i64 F[m]) := by
      rcases hof.2 with ⟨h, h0⟩ | ⟨g9, c, cur, h, -⟩
      ·omega
      ·simp only [Value.slice.injEq, true_and] at h
       obtain ⟨rfl, rfl⟩ := h
       refine ⟨g9, rfl, (hof.lt g9 rfl).2, ?_⟩
       have := cell_num hof hmF
       rw [List.getD_eq_getElem?_getD, List.getElem?_eq_getElem hmf] at this
       exact this
     subst e9
     obtain ⟨x, hx⟩ : ∃ x, x = F[m] := ⟨_, rfl⟩
     rw [← hx] at hc9
     have HS2 := Lib.hid (SliceK.of_owns (enc := encI) (xs := O2) encI_len rfl (by rw [flat_encI]; exact ho))
     have HCT := Lib.hid (Contains_ints B u5 x O2 wr HS2.out)
     have HX := Lib.hid hx
     clear ho hof hx
     cases hc : (O2.any fun y => y == x)
     ·rw [hc] at HCT
      have HNX : Hid (F[m] ∉ O2) := by
       unfold Hid
       rw [← HX.out]
       intro h
       rw [List.any_eq_false] at hc
       exact hc x h (by simp)
      clear hc
      go_wp2_with fail
      refine Calls.mono HCT.out ?_
      rintro e2 w2 ⟨rfl, rfl⟩
      obtain ⟨NO2, hNO2⟩ : ∃ NO2, NO2 = O2.length := ⟨_, rfl⟩
      rw [← hNO2] at HO hO2
      have HNO2 := Lib.hid hNO2
      clear hNO2 HS2
      go_wp2_with (at_builtin; refine wpList_append_own_at _ rfl _ _ 68 rfl B 2 i0 (.int .i64 0) 1 8 Tryz.underlying68 hi hz0 hz1 hz2 rfl (by decide) _ _ _ rfl (HO.out.alloc _) ⟨wr.heap.size, 0, none⟩ 1 1 [.int .i64 x] rfl rfl ?c1 ?c2 ?c3 ?c4 ?c5 ?_)
      case c1 => exact cell_one_new _ _ _
      case c2 => intro u hu; simp at hu; subst hu; rfl
      case c3 => first | omega | (simp [maxLen]; omega)
      case c4 => first | omega | (simp; omega)
      case c5 => first | omega | (simp; omega)
      intro v5 w5 ho5 hg5 _ hob5
      have hal : Below wr.heap.size wr (wr.alloc (.cells #[.int .i64 x] 2)) := (Below.refl _ _).alloc (Nat.le_refl _) _
      have HO5 : Hid (w5.ownsRow B 2 1 v5 (O2 ++ [F[m]]).length ((O2 ++ [F[m]]).map (Value.int .i64))) := by
       unfold Hid
       rw [List.length_append, List.map_append, ← HNO2.out, ← HX.out]
       exact ho5
      have HOF5 := Lib.hid ((owns_below HOF.out hal).kept hg5 HAP.out)
      have HAP5 : Hid ((Value.slice (some ⟨g9, 0, none⟩) NF c9).ownBlock = none ∨ (Value.slice (some ⟨g9, 0, none⟩) NF c9).ownBlock ≠ v5.ownBlock) := by
       rcases hob5 with h | h
       ·rw [h]; exact HAP.out
       ·refine .inr ?_
        rw [h]
        intro e
        have h9 : g9 = wr.heap.size + 1 := Option.some.inj e
        omega
      have HB5 : Hid (Below B wB w5) := (HBL.out.alloc hsz2 _).grown hg5 (by simp; omega) (fun b e => (HO.out.lt b e).1)
      clear ho5 hg5 hob5 hal
      go_wp2
      go_roundw
      case rel => exact ⟨m + 1, O2 ++ [F[m]], by go_num, by omega, HIN2.out.new (fun y hy => (HFM.out y).2 hy) hmf HNX.out, HB5.out, HO5.out, HOF5.out, HAP5.out⟩
      case measure => simp [intOf]; omega
     ·rw [hc] at HCT
      have HIX : Hid (F[m] ∈ O2) := by
       unfold Hid
       rw [← HX.out]
       rw [List.any_eq_true] at hc
       obtain ⟨y, hy, h⟩ := hc
       rw [beq_iff_eq] at h
       rw [← h]; exact hy
      clear hc
      go_wp2_with fail
      refine Calls.mono HCT.out ?_
      rintro e2 w2 ⟨rfl, rfl⟩
      clear HS2
      go_wp2
      go_roundw
      case rel => exact ⟨m + 1, O2, by go_num, by omega, HIN2.out.old hmf HIX.out, HBL.out, HO.out, HOF.out, HAP.out⟩
      case measure => simp [intOf]; omega
    ·have hmF2 : NF = m := by omega
     subst hmF2
     have HK := Lib.hid (show IntOk t S O2 (k + 1) from IntIn.done (F := F) (q := q) (by rw [← HNF.out]; exact HIN2.out) (fun x hx => (HFM.out x).1 hx))
     clear ho hof
     go_wp2
     go_roundw
     case rel => exact ⟨k + 1, O2, by go_num, HK.out, HBL.out, HO.out⟩
     case measure => simp [intOf]; omega
  ·have hk2 : NO = k := by omega
   subst hk2
   have hset : (O.mergeSort fun x y => decide (x ≤ y)) = setL t.states (clos t fun y => y ∈ S) := by
    refine ((sort_nodup_is O HOK.out.nodup).congr fun x => ?_).unique (closL_is HV.out HIN.out)
    exact HOK.out.done HNO.out x
   have hls : (setL t.states (clos t fun y => y ∈ S)).length = NO := by rw [← hset, List.length_mergeSort, HNO.out]
   have HS := Lib.hid (Sort_own B (.slice av NO cv) O wC (by rw [← HNO.out]; exact HO.out) (by rw [← HNO.out]; omega))
   rw [hset] at HS
   have HLS := Lib.hid hls
   clear hset hls
   go_wp2_with fail
   refine Calls.mono HS.out ?_
   rintro e2 w2 ⟨rfl, ho2, hg2⟩
   have HB2 := Lib.hid (HBL.out.grown hg2 hsz (fun b e => (HO.out.lt b e).1))
   have HO2 : Hid (w2.ownsRow B 2 1 (.slice av NO cv) (setL t.states (clos t fun y => y ∈ S)).length ((setL t.states (clos t fun y => y ∈ S)).map (Value.int .i64))) := by
    unfold Hid
    rw [HLS.out]
    rw [← HNO.out] at ho2
    exact ho2
   clear ho2 hg2
   go_wp2
   go_ret
   exact ⟨_, rfl, HB0.out.trans (HB2.out.mono (by rw [HBB.out]; exact HB0.out.size)), own_lower HO2.out (by rw [HBB.out]; exact HB0.out.size)⟩

end Go.Proofs.YtbjbjbnbapeajaaGreatDoor

namespace Go.Proofs.YtbjbjbnbapeajaaGreatDoor
open Go Go.RowKit

theorem labels_pairK {ls : List ByteArray} (h : LabelsOk ls) : (ls.map (·.data.toList)).Pairwise fun a b => lessL a b = true := by
 rw [List.pairwise_map, List.pairwise_iff_getElem]
 intro i j hi hj hij
 rw [← Lib.toList_data, ← Lib.toList_data, lessL_iff]
 have hne : ls[i].toList ≠ ls[j].toList := fun e => by have := labels_inj h i j hi hj e; omega
 refine ⟨hne, ?_⟩
 by_cases h0 : i = 0
 ·subst h0; exact .inl (h.first hi)
 ·refine .inr ⟨h.other j hj (by omega), ?_⟩
  have := labels_less h i j (by omega) hij hj
  unfold strLess at this
  rw [less_lt, decide_eq_true_eq] at this
  exact this

/-- The labels of the edges from a state, in order: as the program makes them. -/
def rdyQ (t : Lts) (k : Int) : List ByteArray := labSet ((outOf t k).map (labAt t))
/-- .. as the reference makes them: by the labels' numbers. -/
def hasQ (t : Lts) (k : Int) (i : Nat) : Bool := t.edges.any fun e => e.src == k && e.lab == (i : Int)
def rdyTo (t : Lts) (k : Int) (n : Nat) : List ByteArray := ((List.range n).filter fun i => hasQ t k i).map fun i => t.labels.getD i ⟨#[]⟩
theorem rdyTo_yes {t : Lts} {k : Int} {n : Nat} (h : hasQ t k n = true) : rdyTo t k (n + 1) = rdyTo t k n ++ [t.labels.getD n ⟨#[]⟩] := by
 unfold rdyTo
 rw [List.range_succ, List.filter_append, List.map_append]
 simp [h]
theorem rdyTo_no {t : Lts} {k : Int} {n : Nat} (h : hasQ t k n = false) : rdyTo t k (n + 1) = rdyTo t k n := by
 unfold rdyTo
 rw [List.range_succ, List.filter_append, List.map_append]
 simp [h]
theorem rdyTo_len (t : Lts) (k : Int) (n : Nat) : (rdyTo t k n).length ≤ n := by
 unfold rdyTo
 rw [List.length_map]
 exact Nat.le_trans (List.length_filter_le _ _) (by simp)
theorem rdyTo_all {t : Lts} (hv : Valid t) (k : Int) : rdyQ t k = rdyTo t k t.labels.length := by
 unfold rdyQ
 refine labSet_eq ?_ fun x => ?_
 ·have hsub : (rdyTo t k t.labels.length).Sublist t.labels := by
   unfold rdyTo
   have h1 : (List.range t.labels.length).map (fun i => t.labels.getD i ⟨#[]⟩) = t.labels := by
    apply List.ext_getElem (by simp)
    intro i h1 h2
    simp [List.getD_eq_getElem?_getD, List.getElem?_eq_getElem h2]
   have h2 := (List.filter_sublist (p := fun i => hasQ t k i) (l := List.range t.labels.length)).map fun i => t.labels.getD i (⟨#[]⟩ : ByteArray)
   rw [h1] at h2
   exact h2
  exact (labels_pairK hv.labels).sublist (hsub.map _)
 ·unfold rdyTo outOf
  rw [List.mem_map, List.mem_map]
  constructor
  ·rintro ⟨e, he, rfl⟩
   rw [List.mem_filter] at he
   obtain ⟨i, hi, hie⟩ := List.mem_iff_getElem.1 he.1
   have hok := hv.edge i hi
   rw [hie] at hok
   obtain ⟨hlt, hla⟩ := labAt_idx hok
   refine ⟨e.lab.toNat, ?_, ?_⟩
   ·rw [List.mem_filter]
    refine ⟨List.mem_range.2 hlt, ?_⟩
    unfold hasQ
    rw [List.any_eq_true]
    refine ⟨e, he.1, ?_⟩
    rw [Bool.and_eq_true]
    exact ⟨he.2, by rw [beq_iff_eq]; have := hok.l0; omega⟩
   ·rw [hla, List.getD_eq_getElem?_getD, List.getElem?_eq_getElem hlt]
    rfl
  ·rintro ⟨i, hi, rfl⟩
   rw [List.mem_filter] at hi
   obtain ⟨hi1, hi2⟩ := hi
   unfold hasQ at hi2
   rw [List.any_eq_true] at hi2
   obtain ⟨e, he, hb⟩ := hi2
   rw [Bool.and_eq_true] at hb
   obtain ⟨hb1, hb2⟩ := hb
   have hb3 : e.lab = (i : Int) := eq_of_beq hb2
   refine ⟨e, List.mem_filter.2 ⟨he, hb1⟩, ?_⟩
   unfold labAt
   rw [show e.lab.toNat = i from by omega]
   rfl

noncomputable section
/-- A weak answer: internal edges, an edge of the label (for tau none), internal edges. -/
def wkP (b : Lts) (y : Int) (l : ByteArray) (w : Int) : Prop :=
 (l.toList = tauB ∧ clos b (fun x => x = y) w) ∨ (l.toList ≠ tauB ∧ ∃ e ∈ b.edges, clos b (fun x => x = y) e.src ∧ (labAt b e).toList = l.toList ∧ clos b (fun x => x = e.dst) w)
def wkB (b : Lts) (y : Int) (l : ByteArray) (w : Int) : Bool := @decide (wkP b y l w) (Classical.propDecidable _)
theorem wkB_iff {b : Lts} {y : Int} {l : ByteArray} {w : Int} : wkB b y l w = true ↔ wkP b y l w := by
 unfold wkB
 exact ⟨fun h => @of_decide_eq_true _ (Classical.propDecidable _) h, fun h => @decide_eq_true _ (Classical.propDecidable _) h⟩
/-- What may answer an edge. -/
def tgtK (κ : Int) (b : Lts) (y : Int) (l : ByteArray) (w : Int) : Bool := if κ = 2 then wkB b y l w else tgtG b y l w
end
theorem wkP_in {b : Lts} (hv : Valid b) {y : Int} (hy : 0 ≤ y ∧ y < b.states) {l : ByteArray} {w : Int} (h : wkP b y l w) : 0 ≤ w ∧ w < b.states := by
 rcases h with ⟨-, h⟩ | ⟨-, e, he, -, -, h⟩
 ·exact clos.inside hv (fun x hx => by subst hx; exact hy) w h
 ·obtain ⟨i, hi, rfl⟩ := List.mem_iff_getElem.1 he
  exact clos.inside hv (fun x hx => by subst hx; exact ⟨(hv.edge i hi).d0, (hv.edge i hi).d1⟩) w h
noncomputable def ansE2 (κ : Int) (a b : Lts) (N : PairSet) (y : Int) (e : Edge) : Bool := (List.range b.states.toNat).any fun (w : Nat) => tgtK κ b y (labAt a e) w && N e.dst w
noncomputable def ansK (κ : Int) (a b : Lts) : PairAsk := fun N x y => (outOf a x).all (ansE2 κ a b N y)
theorem ansK_mono (κ : Int) (a b : Lts) : MonoA (ansK κ a b) := by
 intro N M h x y hn
 unfold ansK at *
 rw [List.all_eq_true] at *
 intro e he
 have h1 := hn e he
 unfold ansE2 at *
 rw [List.any_eq_true] at *
 obtain ⟨w, hw, hb⟩ := h1
 rw [Bool.and_eq_true] at hb
 exact ⟨w, hw, by rw [Bool.and_eq_true]; exact ⟨hb.1, h _ _ hb.2⟩⟩
/-- A list of targets serves as well. -/
theorem ansE2_list {κ : Int} {a b : Lts} {N : PairSet} {y : Int} {e : Edge} {L : List Int} (hL : ∀ w, w ∈ L ↔ tgtK κ b y (labAt a e) w = true ∧ 0 ≤ w ∧ w < b.states) : (L.any fun w => N e.dst w) = ansE2 κ a b N y e := by
 unfold ansE2
 rw [Bool.eq_iff_iff, List.any_eq_true, List.any_eq_true]
 constructor
 ·rintro ⟨w, hw, hn⟩
  obtain ⟨h1, h2, h3⟩ := (hL w).1 hw
  have hw2 : ((w.toNat : Nat) : Int) = w := by omega
  exact ⟨w.toNat, List.mem_range.2 (by omega), by rw [Bool.and_eq_true, hw2]; exact ⟨h1, hn⟩⟩
 ·rintro ⟨w, hw, hb⟩
  rw [Bool.and_eq_true] at hb
  have := List.mem_range.1 hw
  exact ⟨w, (hL w).2 ⟨hb.1, by omega, by omega⟩, hb.2⟩
/-- What the start allows. -/
def okK (κ : Int) (a b : Lts) : PairSet := fun x y => κ != 1 || decide (rdyQ a x = rdyQ b y)
def stK (κ : Int) (a b : Lts) : PairSet := fun x y => allG a b x y && okK κ a b x y

/-- The pairs of a set, in order. -/
def pairsL (S P : Nat) (N : PairSet) : List (List Int) := ((pall P S).filter fun q => N q.1 q.2).map fun q => [q.1, q.2]
/-- What SimulationOf returns. -/
def SimIs (a b : Lts) (κ : Int) (xss : List (List Int)) (code : Int) : Prop :=
 (¬ (Valid a ∧ Valid b) ∧ xss = [] ∧ code = 1) ∨ ((Valid a ∧ Valid b) ∧ ¬ (0 ≤ κ ∧ κ ≤ 2) ∧ xss = [] ∧ code = 2)
  ∨ ((Valid a ∧ Valid b) ∧ (0 ≤ κ ∧ κ ≤ 2) ∧ ∃ N, GreatA (ansK κ a b) (stK κ a b) N ∧ ((N a.initial b.initial = false ∧ xss = [] ∧ code = 3) ∨ (N a.initial b.initial = true ∧ xss = pairsL a.states.toNat b.states.toNat N ∧ code = 0)))
theorem SimIs.unique {a b : Lts} {κ : Int} {xss yss : List (List Int)} {code code' : Int} (h : SimIs a b κ xss code) (k : SimIs a b κ yss code') : xss = yss ∧ code = code' := by
 rcases h with ⟨h1, h2, h3⟩ | ⟨h1, h2, h3, h4⟩ | ⟨h1, h2, N, hN, h3⟩ <;> rcases k with ⟨k1, k2, k3⟩ | ⟨k1, k2, k3, k4⟩ | ⟨k1, k2, M, kM, k3⟩ <;>
  first
  | exact absurd k1 h1
  | exact absurd h1 k1
  | exact absurd k2 h2
  | exact absurd h2 k2
  | exact ⟨h2.trans k2.symm, h3.trans k3.symm⟩
  | exact ⟨h3.trans k3.symm, h4.trans k4.symm⟩
  | skip
 have := hN.unique kM
 subst this
 rcases h3 with ⟨a1, a2, a3⟩ | ⟨a1, a2, a3⟩ <;> rcases k3 with ⟨b1, b2, b3⟩ | ⟨b1, b2, b3⟩
 ·exact ⟨a2.trans b2.symm, a3.trans b3.symm⟩
 ·rw [a1] at b1; cases b1
 ·rw [a1] at b1; cases b1
 ·exact ⟨a2.trans b2.symm, a3.trans b3.symm⟩
theorem pairsL_len {S P : Nat} (hS : S ≤ 40) (hP : P ≤ 40) (N : PairSet) : (pairsL S P N).length ≤ 1600 := by
 unfold pairsL
 rw [List.length_map]
 refine Nat.le_trans (List.length_filter_le _ _) ?_
 rw [pall_len]
 exact Nat.mul_le_mul hS hP
theorem pairsL_two {S P : Nat} {N : PairSet} : ∀ r ∈ pairsL S P N, r.length = 2 := by
 intro r hr
 unfold pairsL at hr
 obtain ⟨q, -, rfl⟩ := List.mem_map.1 hr
 rfl
def RetSim (a b : Lts) (κ : Int) (w : World) (e : Ending) (w' : World) : Prop :=
 Below w.heap.size w w' ∧ ∃ (xss : List (List Int)) (code : Int) (v : Value) (vs : List Value), e = .returned (.tuple #[v, .int .i64 code]) ∧ SimIs a b κ xss code ∧ OwnIntss 68 2 w.heap.size w' v vs xss

end Go.Proofs.YtbjbjbnbapeajaaGreatDoor

namespace Go.Proofs.YtbjbjbnbapeajaaGreatDoor
open Go Go.RowKit

theorem findIdx_hit {α : Type} {p : α → Bool} {l : List α} {k : Nat} (hk : k < l.length) (h1 : ∀ j (h : j < l.length), j < k → p l[j] = false) (h2 : p l[k] = true) : l.findIdx p = k := by
 rw [List.findIdx_eq hk]
 exact ⟨h2, fun j hj => h1 j (by omega) hj⟩
theorem findIdx_none {α : Type} {p : α → Bool} {l : List α} (h1 : ∀ j (h : j < l.length), p l[j] = false) : l.findIdx p = l.length := by
 rw [List.findIdx_eq_length]
 intro x hx
 obtain ⟨j, hj, rfl⟩ := List.mem_iff_getElem.1 hx
 exact h1 j hj

/-- The first place of a text among texts, or -1. -/
def textAt (ss : List ByteArray) (s : ByteArray) : Int := if ss.findIdx (fun t => t.toList == s.toList) < ss.length then (ss.findIdx (fun t => t.toList == s.toList) : Nat) else -1

set_option maxRecDepth 100000 in
set_option maxHeartbeats 1000000 in
theorem l11Find_any (lo : Nat) (v : Value) (ss : List ByteArray) (s : ByteArray) (w : World) (hv : SliceK 1 encS lo w v ss) : Calls Tryz.prog 129 #[v, .string s] w fun e w' => e = .returned (.int .i64 (textAt ss s)) ∧ Below w.heap.size w w' := by
 obtain ⟨a, cap, rfl, hn, hcap, hrow⟩ := hv
 go_enter Tryz.func129, Tryz.ntmps129
 go_wp2
 go_loopw [5] (fun i wr => ∃ k : Nat, k ≤ ss.length ∧ i = .int .i64 k ∧ Below w.heap.size w wr ∧ ∀ j (h : j < ss.length), j < k → (ss[j].toList == s.toList) = false) (fun i _ => ss.length - (intOf i).toNat)
 case atStart => exact ⟨0, Nat.zero_le _, rfl, Below.refl _ _, fun _ _ h => by omega⟩
 case round =>
  obtain ⟨k, hk, rfl, hbl, hx⟩ := hrel
  have HX := Lib.hid hx
  have HBL := Lib.hid hbl
  have hsz := hbl.size
  clear hx
  by_cases hlt : k < ss.length
  ·obtain ⟨b, o, rfl, -, hb, c⟩ := (hrow.below hbl).one hlt
   simp only [encS, List.getElem?_cons_zero] at c
   clear hrow hbl
   cases g : (ss[k].toList == s.toList)
   ·have HG := Lib.hid g
    go_wp2
    go_roundw
    case rel => exact ⟨k + 1, by omega, by go_num, HBL.out, fun j h h' => by
      by_cases e : j = k
      ·subst e; exact HG.out
      ·exact HX.out j h (by omega)⟩
    case measure => simp [intOf]; omega
   ·have HG : Hid (textAt ss s = (k : Int)) := by
     unfold Hid textAt
     rw [findIdx_hit hlt HX.out g, if_pos hlt]
    go_wp2
    go_ret
    exact ⟨ret_int HG.out.symm, HBL.out⟩
  ·clear hrow hbl
   go_wp2
   go_ret
   refine ⟨ret_int ?_, HBL.out⟩
   unfold textAt
   rw [findIdx_none (fun j h => HX.out j h (by omega)), if_neg (by omega)]

theorem textAt_some {ss : List ByteArray} {s : ByteArray} (h : ¬ textAt ss s < 0) : ∃ n : Nat, textAt ss s = n ∧ ∃ hn : n < ss.length, ss[n].toList = s.toList := by
 unfold textAt at h ⊢
 by_cases hlt : ss.findIdx (fun t => t.toList == s.toList) < ss.length
 ·rw [if_pos hlt]
  refine ⟨_, rfl, hlt, ?_⟩
  have := List.findIdx_getElem (p := fun t : ByteArray => t.toList == s.toList) (xs := ss) (w := hlt)
  exact eq_of_beq this
 ·rw [if_neg hlt] at h
  omega
theorem textAt_neg {ss : List ByteArray} {s : ByteArray} : textAt ss s < 0 ↔ (ss.any fun t => t.toList == s.toList) = false := by
 unfold textAt
 by_cases hlt : ss.findIdx (fun t => t.toList == s.toList) < ss.length
 ·rw [if_pos hlt]
  have h1 := List.findIdx_lt_length.1 hlt
  constructor
  ·intro h; omega
  ·intro h
   rw [List.any_eq_false] at h
   obtain ⟨x, hx, hp⟩ := h1
   exact absurd hp (h x hx)
 ·rw [if_neg hlt]
  refine ⟨fun _ => ?_, fun _ => by omega⟩
  rw [List.any_eq_false]
  intro x hx hp
  exact hlt (List.findIdx_lt_length.2 ⟨x, hx, hp⟩)


end Go.Proofs.YtbjbjbnbapeajaaGreatDoor

namespace Go.Proofs.YtbjbjbnbapeajaaGreatDoor
open Go Go.RowKit

theorem info_boolG : (Tryz.prog.info? 4).map (fun i => (i.zero, i.size, i.bytes)) = some (some (.bool false), 1, 1) := by kernel_rfl
theorem textAt_lab {t : Lts} (hv : Valid t) {e : Edge} (he : EdgeOk t e) (l : ByteArray) : e.lab = textAt t.labels l ↔ (labAt t e).toList = l.toList := by
 obtain ⟨hlt, hla⟩ := labAt_idx he
 have h0 := he.l0
 constructor
 ·intro h
  obtain ⟨n, hn, hl, hx⟩ := textAt_some (ss := t.labels) (s := l) (by rw [← h]; omega)
  have e1 : e.lab.toNat = n := by rw [hn] at h; omega
  rw [hla]
  simp only [e1]
  exact hx
 ·intro h
  rw [hla] at h
  by_cases hn : textAt t.labels l < 0
  ·have h1 := textAt_neg.1 hn
   rw [List.any_eq_false] at h1
   exact absurd (by rw [h]; simp) (h1 _ (List.getElem_mem hlt))
  ·obtain ⟨n, hn, hl, hx⟩ := textAt_some hn
   have := labels_inj hv.labels _ _ hlt hl (h.trans hx.symm)
   omega

end Go.Proofs.YtbjbjbnbapeajaaGreatDoor
