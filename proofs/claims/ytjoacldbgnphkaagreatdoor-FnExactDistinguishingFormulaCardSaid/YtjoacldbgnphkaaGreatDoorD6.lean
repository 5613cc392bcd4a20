/-
  What the implementation's functions on numbers' texts compute: strconv by the shelf's contracts.
  A plant, a supervisor and a requirement: the triples of states that are reached, those from which a marked one is reached, what makes a plant valid, when a supervisor controls it; how a plant lies in memory. Plain laws; no program in sight.
  Sets of states as ascending lists; what internal edges reach; the deterministic system of a system, found row for row. Plain definitions; no program in sight.
  Lists in ascending order: one list for each set; what is left of a sorted list when equal neighbours are made one.
  The library's Sort, Compact and Clone at lists of numbers of the call's own.
  What the implementation's follow computes, from any list of states.
  Plain laws for follow and internal: what follow lists is a set; a list that grows until it is closed under internal edges.
  What leaves a state, by label and block; the rounds of a system's partitions, and the round in which two states part. Plain.
  The formula that tells two states apart, plainly.
  The two comparisons that the implementation sorts by: labels (tau first), edges.
  Joined formulas, as both texts make them; the ends under a label in order. Plain.
-/
import Derived.Test.YtjoacldbgnphkaaGreatDoorD3
import Derived.Test.YtjoacldbgnphkaaGreatDoorD5
import Derived.WalkSmall
import Derived.Lib.AppendIntMem
import Derived.Test.YtjoacldbgnphkaaGreatDoorD4
import Derived.Lib.SlicesCompact
import Derived.Lib.RowBridge
import Derived.Sort.OwnSortedInts
import Derived.Lib.OwnBridge
import Derived.Test.YtjoacldbgnphkaaGreatDoorD2
import Derived.Lib.Bytealg
import Derived.Sort.Grow
namespace Go.Proofs.YtjoacldbgnphkaaGreatDoor
open Go Go.RowKit

/-- What the library's own variables hold. -/
structure Glob (w : World) : Prop where
 max : ∃ m, w.cell? ⟨0, 0, none⟩ = some (.int .i64 m)
 syn : ∃ ev, w.cell? ⟨1, 0, none⟩ = some ev ∧ (ev = .nilIface ∨ ∃ te pe, ev = .iface te pe)
 rng : ∃ ev, w.cell? ⟨2, 0, none⟩ = some ev ∧ (ev = .nilIface ∨ ∃ te pe, ev = .iface te pe)
 tab : Lib.TabIs Tryz.prog w "internal/strconv.uint64pow10" .u64 Lib.pow10Tab

theorem Glob.below {w w' : World} (h : Glob w) (hb : Below w.heap.size w w') : Glob w' := by
 obtain ⟨⟨m, h1⟩, ⟨e1, h2, h2'⟩, ⟨e2, h3, h3'⟩, h4⟩ := h
 have hg : Tryz.prog.globalNamed "internal/strconv.uint64pow10" = some 5 := by kernel_rfl
 have hlt : 5 < w.heap.size := by
  have h5 := h4
  unfold Lib.TabIs World.var? at h5
  rw [hg] at h5
  simp only [Option.bind_some] at h5
  rcases Nat.lt_or_ge 5 w.heap.size with h | h
  ·exact h
  ·rw [Array.getElem?_eq_none h] at h5; simp at h5
 refine ⟨⟨m, keeps hb (World.block_lt_of_cell? w _ h1) h1⟩, ⟨e1, keeps hb (World.block_lt_of_cell? w _ h2) h2, h2'⟩, ⟨e2, keeps hb (World.block_lt_of_cell? w _ h3) h3, h3'⟩, ?_⟩
 exact var?_below hb hg hlt h4

theorem Decimal_any (n : Int) (w : World) (h0 : -9223372036854775808 ≤ n) (h1 : n ≤ 9223372036854775807) (g : Glob w) :
  Calls Tryz.prog 144 #[.int .i64 n] w fun e w' => e = .returned (.string ⟨(Lib.itoa n).toArray⟩) ∧ Below w.heap.size w w' := by
 have G := Lib.hid g.tab
 have H0 := Lib.hid h0
 have H1 := Lib.hid h1
 clear g h0 h1
 go_enter Tryz.func144, Tryz.ntmps144
 go_wp2_with fail
 refine (Tryz.strconv_FormatInt_10 n H0.out H1.out _ G.out).mono ?_
 rintro e w' ⟨rfl, k, os, rfl⟩
 have HB : Hid (Below w.heap.size w (Go.Sort.grow (w.drewN k) os)) := Lib.below_grow _ w (Nat.le_refl _) k os
 go_wp2_with fail
 go_ret
 exact ⟨rfl, HB.out⟩

/-- What ReadDecimal reads. -/
def readDec (l : List UInt8) : Option Int :=
 if 18 < (Lib.trimPrefix l [45]).length then none
 else match Lib.parseIntB 64 l with
  | .ok n => if Lib.itoa n = l then some n else none
  | _ => none

/-- ReadDecimal's answer. -/
def RetDec (l : List UInt8) (w : World) (e : Ending) (w' : World) : Prop := e = .returned (.tuple #[.int .i64 ((readDec l).getD 0), .bool (readDec l).isSome]) ∧ Below w.heap.size w w'

theorem ReadDecimal_any (s : ByteArray) (w : World) (hs : s.size ≤ 1073741824) (g : Glob w) : Calls Tryz.prog 130 #[.string s] w (RetDec s.data.toList w) := by
 have G := Lib.hid g
 clear g
 by_cases h18 : 18 < (Lib.trimPrefix s.data.toList [45]).length
 ·have HF : Hid (readDec s.data.toList = none) := by unfold Hid readDec; rw [if_pos h18]
  have HL := Lib.hid h18
  go_enter Tryz.func130, Tryz.ntmps130
  go_wp2_with fail
  refine (Tryz.strings_TrimPrefix s ⟨#[45]⟩ _).mono ?_
  rintro e w' ⟨rfl, rfl⟩
  have h18' : 18 < ((Lib.trimPrefix s.data.toList [45]).length : Int) := by omega
  clear h18
  go_wp2_with fail
  go_ret2
  unfold RetDec
  rw [HF.out]
  exact ⟨rfl, Below.refl _ _⟩
 ·have h18' : ¬ 18 < ((Lib.trimPrefix s.data.toList [45]).length : Int) := by omega
  have HR : Hid (readDec s.data.toList = match Lib.parseIntB 64 s.data.toList with
   | .ok n => if Lib.itoa n = s.data.toList then some n else none
   | _ => none) := by unfold Hid readDec; rw [if_neg h18]
  clear h18
  rcases hp : Lib.parseIntB 64 s.data.toList with v | _ | _
  ·have HP := Lib.hid hp
   have hbd := Lib.parseIntB_bounds hp
   have HB1 : Hid (-9223372036854775808 ≤ v) := by have := hbd.1; unfold Hid; simpa using this
   have HB2 : Hid (v ≤ 9223372036854775807) := by have := hbd.2; unfold Hid; simp at this; omega
   rw [hp] at HR
   clear hp hbd
   go_enter Tryz.func130, Tryz.ntmps130
   go_wp2_with fail
   refine (Tryz.strings_TrimPrefix s ⟨#[45]⟩ _).mono ?_
   rintro e w' ⟨rfl, rfl⟩
   go_wp2_with fail
   refine (Tryz.strconv_ParseInt_10_at64_ok s (by omega) v HP.out _).mono ?_
   rintro e w1 ⟨rfl, hw1⟩
   have HB3 : Hid (Below w'.heap.size w' w1) := by
    rcases hw1 with rfl | ⟨t, rfl⟩
    ·exact Below.refl _ _
    ·exact Lib.bytesWorld_below _ _ _
   clear hw1
   go_wp2_with fail
   refine (Decimal_any v _ HB1.out HB2.out (G.out.below HB3.out)).mono ?_
   rintro e w2 ⟨rfl, hb2⟩
   have HB4 := Lib.hid hb2
   clear hb2
   by_cases hq : Lib.itoa v = s.data.toList
   ·have HF : Hid (readDec s.data.toList = some v) := by unfold Hid; rw [HR.out, if_pos hq]
    go_wp2_with fail
    go_ret2
    unfold RetDec
    rw [HF.out]
    exact ⟨rfl, HB3.out.trans (HB4.out.mono HB3.out.size)⟩
   ·have HF : Hid (readDec s.data.toList = none) := by unfold Hid; rw [HR.out, if_neg hq]
    have hq' : (!Lib.itoa v == s.toList) = true := by rw [Lib.toList_data]; simpa using hq
    go_wp2_with fail
    go_ret2
    unfold RetDec
    rw [HF.out]
    exact ⟨rfl, HB3.out.trans (HB4.out.mono HB3.out.size)⟩
  ·have HP := Lib.hid hp
   rw [hp] at HR
   clear hp
   obtain ⟨ev, hv, hev⟩ := G.out.syn
   have HV := Lib.hid hv
   have HE := Lib.hid hev
   clear hv hev
   go_enter Tryz.func130, Tryz.ntmps130
   go_wp2_with fail
   refine (Tryz.strings_TrimPrefix s ⟨#[45]⟩ _).mono ?_
   rintro e w' ⟨rfl, rfl⟩
   go_wp2_with fail
   refine (Any.strconv_ParseInt_10_at64_syntax Tryz.laysC174 s (by omega) HP.out ev _ HV.out HE.out).mono ?_
   rintro e w1 ⟨N, rfl, -, -, hb⟩
   have HB3 := Lib.hid hb
   clear hb
   go_wp2_with fail
   go_ret2
   unfold RetDec
   rw [HR.out]
   exact ⟨rfl, HB3.out⟩
  ·have HP := Lib.hid hp
   rw [hp] at HR
   clear hp
   obtain ⟨ev, hv, hev⟩ := G.out.rng
   have HV := Lib.hid hv
   have HE := Lib.hid hev
   clear hv hev
   go_enter Tryz.func130, Tryz.ntmps130
   go_wp2_with fail
   refine (Tryz.strings_TrimPrefix s ⟨#[45]⟩ _).mono ?_
   rintro e w' ⟨rfl, rfl⟩
   go_wp2_with fail
   refine (Tryz.strconv_ParseInt_10_at64_range s (by omega) HP.out ev _ HV.out HE.out).mono ?_
   rintro e w1 ⟨N, rfl, -, -, hb⟩
   have HB3 := Lib.hid hb
   clear hb
   go_wp2_with fail
   go_ret2
   unfold RetDec
   rw [HR.out]
   exact ⟨rfl, HB3.out⟩

end Go.Proofs.YtjoacldbgnphkaaGreatDoor

namespace Go.Proofs.YtjoacldbgnphkaaGreatDoor
open Go Go.RowKit

/-! A plant, a supervisor and a requirement: the triples of states that are reached, and those from which a marked one is reached. Plain definitions; no program in sight. -/

structure Tri where
 x : Int
 y : Int
 z : Int
 deriving DecidableEq

def place (rows : List Tri) (r : Tri) : Nat := rows.findIdx fun q => q == r
/-! The search over triples, edge for edge: how far it has come, and what holds there. Plain laws. -/

section
variable {p s r : Lts} {ctl : ByteArray → Bool}

end


end Go.Proofs.YtjoacldbgnphkaaGreatDoor

namespace Go.Proofs.YtjoacldbgnphkaaGreatDoor
open Go Go.RowKit

/-- A list that has just the members P, ascending. -/
structure IsSet (P : Int → Prop) (l : List Int) : Prop where
 mem : ∀ x, x ∈ l ↔ P x
 asc : l.Pairwise (· < ·)

theorem asc_unique : ∀ (l m : List Int), l.Pairwise (· < ·) → m.Pairwise (· < ·) → (∀ x, x ∈ l ↔ x ∈ m) → l = m
 | [], [], _, _, _ => rfl
 | [], b :: m, _, _, h => by have := (h b).2 (by simp); simp at this
 | a :: l, [], _, _, h => by have := (h a).1 (by simp); simp at this
 | a :: l, b :: m, hl, hm, h => by
  rw [List.pairwise_cons] at hl hm
  have e : a = b := by
   have h1 := (h a).1 (by simp)
   have h2 := (h b).2 (by simp)
   rw [List.mem_cons] at h1 h2
   rcases h1 with h1 | h1
   ·exact h1
   ·rcases h2 with h2 | h2
    ·exact h2.symm
    ·have := hm.1 a h1
     have := hl.1 b h2
     omega
  subst e
  rw [asc_unique l m hl.2 hm.2 fun x => ?_]
  constructor
  ·intro hx
   have h1 := (h x).1 (by simp [hx])
   rw [List.mem_cons] at h1
   rcases h1 with h1 | h1
   ·have := hl.1 x hx; omega
   ·exact h1
  ·intro hx
   have h1 := (h x).2 (by simp [hx])
   rw [List.mem_cons] at h1
   rcases h1 with h1 | h1
   ·have := hm.1 x hx; omega
   ·exact h1
theorem IsSet.unique {P : Int → Prop} {l m : List Int} (hl : IsSet P l) (hm : IsSet P m) : l = m :=
 asc_unique l m hl.asc hm.asc fun x => (hl.mem x).trans (hm.mem x).symm
theorem IsSet.congr {P Q : Int → Prop} {l : List Int} (hl : IsSet P l) (h : ∀ x, P x ↔ Q x) : IsSet Q l := ⟨fun x => (hl.mem x).trans (h x), hl.asc⟩

noncomputable section
end

/-- Behind a label's number k, from the states in l. -/
def behindP (t : Lts) (l : List Int) (k : Int) (x : Int) : Prop := ∃ e ∈ t.edges, e.lab = k ∧ e.src ∈ l ∧ e.dst = x
noncomputable section
end

end Go.Proofs.YtjoacldbgnphkaaGreatDoor

namespace Go.Proofs.YtjoacldbgnphkaaGreatDoor
open Go Go.RowKit

theorem compact_upto {α : Type} [Inhabited α] [DecidableEq α] (lt : α → α → Prop) (ht : ∀ a b c, lt a b → lt b c → lt a c) (d : Array α) (hs : ∀ i j, i < j → j < d.size → d[i]! = d[j]! ∨ lt d[i]! d[j]!) :
  ∀ m, m ≤ d.size → (Lib.compactUpTo d m).Pairwise lt ∧ ∀ x, x ∈ Lib.compactUpTo d m ↔ ∃ j, j < m ∧ d[j]! = x
 | 0, _ => ⟨by simp [Lib.compactUpTo], fun x => by simp [Lib.compactUpTo]⟩
 | m + 1, hm => by
  obtain ⟨h1, h2⟩ := compact_upto lt ht d hs m (by omega)
  rw [Lib.compactUpTo_succ]
  by_cases hk : Lib.keeps d m = true
  ·rw [if_pos hk]
   refine ⟨?_, fun x => ?_⟩
   ·rw [List.pairwise_append]
    refine ⟨h1, by simp, fun a ha b hb => ?_⟩
    rw [List.mem_singleton] at hb
    subst hb
    obtain ⟨j, hj, rfl⟩ := (h2 a).1 ha
    unfold Lib.keeps at hk
    rw [decide_eq_true_eq] at hk
    rcases hk with hk | hk
    ·omega
    ·have hl : lt d[m - 1]! d[m]! := by
      rcases hs (m - 1) m (by omega) (by omega) with e | e
      ·exact absurd e.symm hk
      ·exact e
     by_cases hjm : j = m - 1
     ·rw [hjm]; exact hl
     ·rcases hs j (m - 1) (by omega) (by omega) with e | e
      ·rw [e]; exact hl
      ·exact ht _ _ _ e hl
   ·rw [List.mem_append, h2, List.mem_singleton]
    constructor
    ·rintro (⟨j, hj, e⟩ | e)
     ·exact ⟨j, by omega, e⟩
     ·exact ⟨m, by omega, e.symm⟩
    ·rintro ⟨j, hj, e⟩
     by_cases hjm : j = m
     ·subst hjm; exact .inr e.symm
     ·exact .inl ⟨j, by omega, e⟩
  ·rw [if_neg hk, List.append_nil]
   refine ⟨h1, fun x => ?_⟩
   rw [h2]
   have hk' : m ≠ 0 ∧ d[m]! = d[m - 1]! := by
    unfold Lib.keeps at hk
    rw [decide_eq_true_eq, not_or, Classical.not_not] at hk
    exact hk
   constructor
   ·rintro ⟨j, hj, e⟩
    exact ⟨j, by omega, e⟩
   ·rintro ⟨j, hj, e⟩
    by_cases hjm : j = m
    ·subst hjm
     exact ⟨j - 1, by omega, by rw [← hk'.2]; exact e⟩
    ·exact ⟨j, by omega, e⟩
theorem compact_is {α : Type} [Inhabited α] [DecidableEq α] (lt : α → α → Prop) (ht : ∀ a b c, lt a b → lt b c → lt a c) (zs : List α) (hs : zs.Pairwise fun a b => a = b ∨ lt a b) :
  (Lib.compact zs).Pairwise lt ∧ ∀ x, x ∈ Lib.compact zs ↔ x ∈ zs := by
 have hp := List.pairwise_iff_getElem.1 hs
 have hg : ∀ i (h : i < zs.length), zs.toArray[i]! = zs[i] := fun i h => by
  rw [getElem!_pos zs.toArray i (by simpa using h)]
  simp
 obtain ⟨h1, h2⟩ := compact_upto lt ht zs.toArray (fun i j hij hj => by
  have hj' : j < zs.length := by simpa using hj
  rw [hg i (by omega), hg j hj']
  exact hp i j (by omega) hj' hij) zs.length (by simp)
 refine ⟨h1, fun x => ?_⟩
 unfold Lib.compact
 rw [h2, List.mem_iff_getElem]
 constructor
 ·rintro ⟨j, hj, e⟩
  exact ⟨j, hj, by rw [← hg j hj]; exact e⟩
 ·rintro ⟨j, hj, e⟩
  exact ⟨j, hj, by rw [hg j hj]; exact e⟩

/-- A list that is sorted in numbers, then its equal neighbours made one: the set's list. -/
theorem sort_compact_is (xs : List Int) : IsSet (fun x => x ∈ xs) (Lib.compact (xs.mergeSort fun x y => decide (x ≤ y))) := by
 have hs : (xs.mergeSort fun x y => decide (x ≤ y)).Pairwise fun a b => a = b ∨ a < b := by
  have := List.pairwise_mergeSort (le := fun (x y : Int) => decide (x ≤ y)) (fun a b c h1 h2 => by simp at *; omega) (fun a b => by simp; omega) xs
  exact this.imp fun h => by simp at h; omega
 obtain ⟨h1, h2⟩ := compact_is (fun a b : Int => a < b) (fun a b c h k => by omega) _ hs
 exact ⟨fun x => (h2 x).trans List.mem_mergeSort, h1⟩
end Go.Proofs.YtjoacldbgnphkaaGreatDoor

namespace Go.Proofs.YtjoacldbgnphkaaGreatDoor
open Go Go.RowKit

theorem Sort_own (base : Nat) (v : Value) (xs : List Int) (w : World) (ho : w.ownsRow base 2 1 v xs.length (xs.map (Value.int .i64))) (hz : xs.length ≤ 1048576) :
  Calls Tryz.prog 68 #[v] w fun e w' => e = .returned (.tuple #[]) ∧ w'.ownsRow base 2 1 v xs.length ((xs.mergeSort fun x y => decide (x ≤ y)).map (Value.int .i64)) ∧ w.grownBy w' v.ownBlock := by
 rcases ho.2 with ⟨rfl, h0⟩ | ⟨g, cap, cur, rfl, hb, hg, hn, hm, hs, ht⟩
 ·have hx : xs = [] := List.eq_nil_of_length_eq_zero h0
  subst hx
  refine (Tryz.slices_Sort_int_none none 0 w).mono ?_
  rintro e w' ⟨rfl, rfl⟩
  exact ⟨rfl, by simpa using ho, grown_refl _ _⟩
 ·rw [Nat.mul_one] at ht
  refine (Tryz.slices_Sort_int g 0 cap xs w (holds_of_blockI hg ht) (Array.getElem?_eq_some_iff.1 hg).1 (by omega)).mono ?_
  rintro e w' ⟨rfl, n, os, rfl⟩
  exact ⟨rfl, ownsRow_sortedI (List.length_mergeSort xs) hb hg hn hm hs, grownBy_sortedI _⟩

theorem grownBy_put {α : Type} [Inhabited α] {enc : α → Value} {w : World} {g q : Nat} (d : Array α) : w.grownBy (Go.Sort.putRow enc (Go.Sort.ahead w q) g 0 d) (some g) := by
 refine ⟨rfl, rfl, rfl, by simp [Go.Sort.putRow, Go.Sort.mapBlock, Go.Sort.ahead], fun k hk hne => ?_⟩
 have : g ≠ k := fun e => hne (by rw [e])
 simp [Go.Sort.putRow, Go.Sort.mapBlock, Go.Sort.ahead, Array.getElem?_modify, this]

theorem Compact_own (base : Nat) (v : Value) (xs : List Int) (w : World) (ho : w.ownsRow base 2 1 v xs.length (xs.map (Value.int .i64))) :
  Calls Tryz.prog 69 #[v] w fun e w' => ∃ v', e = .returned v' ∧ w'.ownsRow base 2 1 v' (Lib.compact xs).length ((Lib.compact xs).map (Value.int .i64)) ∧ w.grownBy w' v.ownBlock := by
 have hle := Lib.compact_length_le xs
 rcases ho.2 with ⟨rfl, h0⟩ | ⟨g, cap, cur, rfl, hb, hg, hn, hm, hs, ht⟩
 ·have hx : xs = [] := List.eq_nil_of_length_eq_zero h0
  subst hx
  refine (Tryz.slices_Compact_int_empty none 0 w).mono ?_
  rintro e w' ⟨rfl, rfl⟩
  exact ⟨_, rfl, by simpa [Lib.compact, Lib.compactUpTo] using ho, grown_refl _ _⟩
 ·rw [Nat.mul_one] at ht
  have hm2 : cap ≤ 9223372036854775807 := by simpa [maxLen] using hm
  refine (Tryz.slices_Compact_int g 0 cap xs w (holds_of_blockI hg ht) (by omega) hn).mono ?_
  rintro e w' ⟨rfl, q, rfl⟩
  have hc := Lib.ownsRow_putRow (q := q) (k := (Lib.compact xs).length) (ys := Lib.compact xs ++ List.replicate (xs.length - (Lib.compact xs).length) 0) ho (by simp; omega) hle
  rw [List.take_left] at hc
  exact ⟨_, rfl, hc, grownBy_put _⟩

end Go.Proofs.YtjoacldbgnphkaaGreatDoor

namespace Go.Proofs.YtjoacldbgnphkaaGreatDoor
open Go Go.RowKit

theorem info_int64f : (Tryz.prog.info? 2).map (fun i => (i.zero, i.size, i.bytes)) = some (some (.int .i64 0), 1, 8) := by kernel_rfl

/-- An edge with the label from one of the states. -/
def hitS (p : Lts) (cur : List Int) (l : ByteArray) (e : Edge) : Bool := (cur.any fun y => y == e.src) && ((labAt p e).toList == l.toList)
def followR (p : Lts) (cur : List Int) (l : ByteArray) : List Int := (p.edges.filter (hitS p cur l)).map Edge.dst
def followL (p : Lts) (cur : List Int) (l : ByteArray) : List Int := Lib.compact ((followR p cur l).mergeSort fun x y => decide (x ≤ y))
theorem hitS_take {p : Lts} {cur : List Int} {l : ByteArray} {k : Nat} (h : k < p.edges.length) (g : hitS p cur l p.edges[k] = true) :
  ((p.edges.take (k + 1)).filter (hitS p cur l)).map Edge.dst = ((p.edges.take k).filter (hitS p cur l)).map Edge.dst ++ [p.edges[k].dst] := by
 rw [List.take_succ_eq_append_getElem h, List.filter_append, List.map_append]
 simp [g]
theorem missS_take {p : Lts} {cur : List Int} {l : ByteArray} {k : Nat} (h : k < p.edges.length) (g : hitS p cur l p.edges[k] = false) :
  ((p.edges.take (k + 1)).filter (hitS p cur l)).map Edge.dst = ((p.edges.take k).filter (hitS p cur l)).map Edge.dst := by
 rw [List.take_succ_eq_append_getElem h, List.filter_append, List.map_append]
 simp [g]

set_option maxRecDepth 100000 in
set_option maxHeartbeats 2000000 in
theorem follow_any (lo lo2 : Nat) (p : Lts) (lv ev sv : Value) (cur : List Int) (l : ByteArray) (w : World) (hvp : Valid p) (hl : SliceK 1 encS lo w lv p.labels) (he : SliceK 3 encE lo w ev p.edges) (hs : SliceK 1 encI lo2 w sv cur) :
  Calls Tryz.prog 74 #[.agg #[.int .i64 p.states, .int .i64 p.initial, lv, ev], sv, .string l] w (MadeNums (followL p cur l) w) := by
 have HS := Lib.hid hs
 have HE := Lib.hid hvp.edge
 have hmost := hvp.most
 clear hs hvp
 obtain ⟨al, cl, rfl, hln, hlc, hlr⟩ := hl
 obtain ⟨ae, ce, rfl, hen, hec, hrow⟩ := he
 have HLR := Lib.hid hlr
 have HER := Lib.hid hrow
 clear hlr hrow
 obtain ⟨i0, hi, hz0, hz1, hz2⟩ := info_parts info_int64f
 have HB0 : Hid (Below w.heap.size w (w.alloc (.cells #[.int .i64 p.states, .int .i64 p.initial, .slice al p.labels.length cl, .slice ae p.edges.length ce] 32))) := (Below.refl _ _).alloc (Nat.le_refl _) _
 have HQ2 : Hid ((w.alloc (.cells #[.int .i64 p.states, .int .i64 p.initial, .slice al p.labels.length cl, .slice ae p.edges.length ce] 32)).cell? ⟨w.heap.size, 2, none⟩ = some (.slice al p.labels.length cl)) := by unfold Hid; simp
 obtain ⟨wB, hwB⟩ : ∃ wB, wB = w.alloc (.cells #[.int .i64 p.states, .int .i64 p.initial, .slice al p.labels.length cl, .slice ae p.edges.length ce] 32) := ⟨_, rfl⟩
 have hwz : wB.heap.size = w.heap.size + 1 := by rw [hwB]; simp
 rw [← hwB] at HB0 HQ2
 have HWB := Lib.hid hwB
 clear hwB
 go_enter Tryz.func74, Tryz.ntmps74
 go_wp2_with fail
 rw [← HWB.out]
 clear HWB
 go_loopw [7, 13] (fun v i wr => ∃ k : Nat, k ≤ p.edges.length ∧ i = .int .i64 k ∧ Below wB.heap.size wB wr ∧ wr.ownsRow wB.heap.size 2 1 v (((p.edges.take k).filter (hitS p cur l)).map Edge.dst).length ((((p.edges.take k).filter (hitS p cur l)).map Edge.dst).map (Value.int .i64))) (fun _ i _ => p.edges.length - (intOf i).toNat)
 case atStart => exact ⟨0, Nat.zero_le _, rfl, Below.refl _ _, World.ownsRow_nil _ _ _ _⟩
 case round =>
  obtain ⟨k, hk, rfl, hbl, ho⟩ := hrel
  have HBL := Lib.hid hbl
  have HO := Lib.hid ho
  have hsz := hbl.size
  have q2 := keeps hbl (by omega) HQ2.out
  have hwr : w.heap.size < wr.heap.size := by omega
  have hfl : (((p.edges.take k).filter (hitS p cur l)).map Edge.dst).length ≤ k := by rw [List.length_map]; exact Nat.le_trans (List.length_filter_le _ _) (List.length_take_le _ _)
  clear hbl ho
  by_cases hlt : k < p.edges.length
  ·have hbr := HB0.out.trans (HBL.out.mono HB0.out.size)
   obtain ⟨be, oe, rfl, -, hbe, e1, e2, e3⟩ := (HER.out.below hbr).edge hlt
   have hek := HE.out k hlt
   obtain ⟨hll, hla⟩ := labAt_idx hek
   obtain ⟨bl, ol, rfl, -, hbl2, c1⟩ := (HLR.out.below hbr).one hll
   simp only [encS, List.getElem?_cons_zero] at c1
   rw [← hla] at c1
   have hl0 : ((p.edges[k].lab.toNat : Nat) : Int) = p.edges[k].lab := by have := hek.l0; omega
   have hl1 := hek.l1
   have hl2 := hek.l0
   obtain ⟨e, hee⟩ : ∃ e, e = p.edges[k] := ⟨_, rfl⟩
   obtain ⟨m, hm⟩ : ∃ m, m = p.edges[k].lab.toNat := ⟨_, rfl⟩
   rw [← hm] at c1 hl0 hll
   rw [← hee] at e1 e2 e3 c1 hl0 hl1 hl2
   have HEE := Lib.hid hee
   rw [← hl0] at e2
   have HBA : Hid (Below wB.heap.size wB (wr.alloc (.cells #[.int .i64 e.src, .int .i64 m, .int .i64 e.dst] 66))) := HBL.out.alloc hsz _
   have HSA : Hid (SliceK 1 encI lo2 (wr.alloc (.cells #[.int .i64 e.src, .int .i64 m, .int .i64 e.dst] 66)) sv cur) := HS.out.below (hbr.alloc hbr.size _)
   have HOA : Hid ((wr.alloc (.cells #[.int .i64 e.src, .int .i64 m, .int .i64 e.dst] 66)).ownsRow wB.heap.size 2 1 u7 (((p.edges.take k).filter (hitS p cur l)).map Edge.dst).length ((((p.edges.take k).filter (hitS p cur l)).map Edge.dst).map (Value.int .i64))) := HO.out.alloc _
   have hml : (m : Int) < (p.labels.length : Int) := by omega
   clear hl0 hl1 hl2 hek hbr hla
   cases g1 : ((labAt p e).toList == l.toList)
   ·have HG : Hid (hitS p cur l p.edges[k] = false) := by unfold Hid hitS; rw [← hee, g1, Bool.and_false]
    clear hee hm
    go_wp2_with fail
    go_roundw
    case rel => exact ⟨k + 1, by omega, by go_num, HBA.out, by rw [missS_take hlt HG.out]; exact HOA.out⟩
    case measure => simp [intOf]; omega
   ·cases g2 : (cur.any fun y => y == e.src)
    ·have HG : Hid (hitS p cur l p.edges[k] = false) := by
      unfold Hid hitS
      rw [← hee, g2, Bool.false_and]
     have HG2 := Lib.hid g2
     clear hee hm g2
     go_wp2_with fail
     refine (Contains_ints lo2 _ _ cur _ HSA.out).mono ?_
     rintro e' w' ⟨rfl, rfl⟩
     rw [HG2.out]
     go_wp2_with fail
     go_roundw
     case rel => exact ⟨k + 1, by omega, by go_num, HBA.out, by rw [missS_take hlt HG.out]; exact HOA.out⟩
     case measure => simp [intOf]; omega
    ·have HG : Hid (hitS p cur l p.edges[k] = true) := by
      unfold Hid hitS
      rw [← hee, g2, g1]; rfl
     have HG2 := Lib.hid g2
     have HD : Hid (p.edges[k].dst = e.dst) := by unfold Hid; rw [← hee]
     clear hee hm g2
     have hfz := hfl
     generalize hfs : ((p.edges.take k).filter (hitS p cur l)).map Edge.dst = fs at *
     have HFS := Lib.hid hfs
     clear hfs
     go_wp2_with fail
     refine (Contains_ints lo2 _ _ cur _ HSA.out).mono ?_
     rintro e' w' ⟨rfl, rfl⟩
     rw [HG2.out]
     go_wp2_with (at_builtin; refine wpList_append_own _ rfl _ _ 69 rfl wB.heap.size 2 i0 (.int .i64 0) 1 8 Tryz.underlying69 hi hz0 hz1 hz2 rfl (by decide) _ _ _ rfl (HOA.out.alloc _) ⟨wr.heap.size + 1, 0, none⟩ 1 1 [.int .i64 e.dst] rfl rfl ?c1 ?c2 ?c3 ?c4 ?c5 ?_)
     case c1 => have := cell_one_new (wr.alloc (.cells #[.int .i64 e.src, .int .i64 m, .int .i64 e.dst] 66)) (.int .i64 e.dst) 2; simpa using this
     case c2 => intro u hu; simp at hu; subst hu; rfl
     case c3 => simp [maxLen]; omega
     case c4 => omega
     case c5 => simp; omega
     intro v' w3 ho1 hg1 _
     have HO2 : Hid (w3.ownsRow wB.heap.size 2 1 v' (fs ++ [e.dst]).length ((fs ++ [e.dst]).map (Value.int .i64))) := by
      unfold Hid
      rw [List.length_append, List.map_append, hwz]
      exact ho1
     have HB2 : Hid (Below wB.heap.size wB w3) := (HBA.out.alloc (by simp; omega) _).grown hg1 (by simp; omega) (fun b e => (HO.out.lt b e).1)
     clear ho1 hg1
     go_wp2_with fail
     go_roundw
     case rel => exact ⟨k + 1, by omega, by go_num, HB2.out, by rw [hitS_take hlt HG.out, HFS.out, HD.out]; exact HO2.out⟩
     case measure => simp [intOf]; omega
  ·obtain rfl : k = p.edges.length := by omega
   have HO2 : Hid (wr.ownsRow wB.heap.size 2 1 u7 (followR p cur l).length ((followR p cur l).map (Value.int .i64))) := by
    have := HO.out
    rw [List.take_length] at this
    exact this
   rw [List.take_length] at hfl
   have hfl2 : (followR p cur l).length ≤ 1048576 := by unfold followR; omega
   have HS1 := Lib.hid (Sort_own wB.heap.size u7 _ wr HO2.out hfl2)
   clear HO HER HLR q2 hfl hfl2
   go_wp2_with fail
   refine Calls.mono HS1.out ?_
   rintro e' w1 ⟨rfl, ho1, hg1⟩
   have HB1 := Lib.hid (HBL.out.grown hg1 (by exact hsz) (fun b e => (HO2.out.lt b e).1))
   have HS2 := Lib.hid (Compact_own wB.heap.size u7 ((followR p cur l).mergeSort fun x y => decide (x ≤ y)) w1 (by rw [List.length_mergeSort]; exact ho1))
   have HLT := Lib.hid (fun b e => (ho1.lt b e).1)
   clear ho1 hg1 HS1
   go_wp2_with fail
   refine Calls.mono HS2.out ?_
   rintro e' w2 ⟨v2, rfl, ho2, hg2⟩
   have HB2 := Lib.hid (HB1.out.grown hg2 HB1.out.size HLT.out)
   have HO3 := Lib.hid ho2
   clear ho2 hg2 HS2
   go_wp2_with fail
   go_ret
   exact ⟨_, rfl, HB0.out.trans (HB2.out.mono HB0.out.size), own_lower HO3.out HB0.out.size⟩

end Go.Proofs.YtjoacldbgnphkaaGreatDoor

namespace Go.Proofs.YtjoacldbgnphkaaGreatDoor
open Go Go.RowKit

theorem mem_followR {p : Lts} {cur : List Int} {l : ByteArray} {x : Int} : x ∈ followR p cur l ↔ ∃ e ∈ p.edges, e.src ∈ cur ∧ (labAt p e).toList = l.toList ∧ e.dst = x := by
 unfold followR hitS
 rw [List.mem_map]
 constructor
 ·rintro ⟨e, he, rfl⟩
  rw [List.mem_filter, Bool.and_eq_true, List.any_eq_true] at he
  obtain ⟨h1, ⟨y, hy, h2⟩, h3⟩ := he
  rw [beq_iff_eq] at h2 h3
  subst h2
  exact ⟨e, h1, hy, h3, rfl⟩
 ·rintro ⟨e, h1, h2, h3, rfl⟩
  refine ⟨e, ?_, rfl⟩
  rw [List.mem_filter, Bool.and_eq_true, List.any_eq_true]
  exact ⟨h1, ⟨e.src, h2, by rw [beq_iff_eq]⟩, by rw [beq_iff_eq]; exact h3⟩
theorem followL_is {t : Lts} (hv : Valid t) (cur : List Int) {k : Nat} (hk : k < t.labels.length) : IsSet (behindP t cur k) (followL t cur t.labels[k]) := by
 refine (sort_compact_is (followR t cur t.labels[k])).congr fun x => ?_
 rw [mem_followR]
 unfold behindP
 constructor
 ·rintro ⟨e, he, h1, h2, h3⟩
  refine ⟨e, he, ?_, h1, h3⟩
  obtain ⟨i, hi, rfl⟩ := List.mem_iff_getElem.1 he
  have hok := hv.edge i hi
  obtain ⟨hlt, hla⟩ := labAt_idx hok
  rw [hla] at h2
  have := labels_inj hv.labels _ _ hlt hk h2
  have := hok.l0
  omega
 ·rintro ⟨e, he, h1, h2, h3⟩
  refine ⟨e, he, h2, ?_, h3⟩
  obtain ⟨i, hi, rfl⟩ := List.mem_iff_getElem.1 he
  have hok := hv.edge i hi
  obtain ⟨hlt, hla⟩ := labAt_idx hok
  rw [hla]
  congr 2
  omega
end Go.Proofs.YtjoacldbgnphkaaGreatDoor

namespace Go.Proofs.YtjoacldbgnphkaaGreatDoor
open Go Go.RowKit

def rawG (t : Lts) (p : List Int) (i : Nat) : List Int := (outOf t i).map fun e => e.lab * t.states + p.getD e.dst.toNat 0
def sgT (t : Lts) (p : List Int) (i : Nat) : List Int := Lib.compact ((rawG t p i).mergeSort fun x y => decide (x ≤ y))
theorem sgT_is (t : Lts) (p : List Int) (i : Nat) : IsSet (fun x => x ∈ rawG t p i) (sgT t p i) := sort_compact_is _
theorem sgT_iff {t : Lts} {p q : List Int} {i j : Nat} : sgT t p i = sgT t q j ↔ ∀ x, x ∈ rawG t p i ↔ x ∈ rawG t q j := by
 constructor
 ·intro h x
  rw [← (sgT_is t p i).mem, ← (sgT_is t q j).mem, h]
 ·intro h
  exact ((sgT_is t p i).congr h).unique (sgT_is t q j)
theorem code_inj {S l1 l2 b1 b2 : Int} (h1 : 0 ≤ b1) (h2 : b1 < S) (h3 : 0 ≤ b2) (h4 : b2 < S) (h : l1 * S + b1 = l2 * S + b2) : l1 = l2 ∧ b1 = b2 := by
 have hS : S ≠ 0 := by omega
 have e1 : (l1 * S + b1) / S = l1 := by rw [Int.add_comm, Int.add_mul_ediv_right _ _ hS, Int.ediv_eq_zero_of_lt h1 h2, Int.zero_add]
 have e2 : (l2 * S + b2) / S = l2 := by rw [Int.add_comm, Int.add_mul_ediv_right _ _ hS, Int.ediv_eq_zero_of_lt h3 h4, Int.zero_add]
 have : l1 = l2 := by rw [← e1, ← e2, h]
 subst this
 exact ⟨rfl, by omega⟩
/-- A partition of the states. -/
def InP (t : Lts) (p : List Int) : Prop := p.length = t.states.toNat ∧ ∀ x ∈ p, 0 ≤ x ∧ x < t.states
theorem InP.at {t : Lts} {p : List Int} (h : InP t p) {k : Int} (h0 : 0 ≤ k) (h1 : k < t.states) : 0 ≤ p.getD k.toNat 0 ∧ p.getD k.toNat 0 < t.states := by
 have hl : k.toNat < p.length := by rw [h.1]; omega
 rw [getD_eq hl]
 exact h.2 _ (List.getElem_mem _)
theorem out_edge {t : Lts} (hv : Valid t) {k : Int} {e : Edge} (h : e ∈ outOf t k) : EdgeOk t e := by
 obtain ⟨i, hi, rfl⟩ := List.mem_iff_getElem.1 (List.mem_filter.1 h).1
 exact hv.edge i hi
theorem out_src {t : Lts} {k : Int} {e : Edge} (h : e ∈ outOf t k) : e.src = k := by
 have := (List.mem_filter.1 h).2
 simpa using this
theorem raw_mem {t : Lts} {p : List Int} {i : Nat} {x : Int} : x ∈ rawG t p i ↔ ∃ e ∈ outOf t i, e.lab * t.states + p.getD e.dst.toNat 0 = x := List.mem_map
/-- An edge from b that goes, under the same label, into the same block. -/
def metB (t : Lts) (p : List Int) (e : Edge) (b : Int) : Bool := (outOf t b).any fun o => o.lab == e.lab && p.getD o.dst.toNat 0 == p.getD e.dst.toNat 0
def covB (t : Lts) (p : List Int) (a b : Int) : Bool := (outOf t a).all fun e => metB t p e b
theorem met_iff {t : Lts} (hv : Valid t) {p : List Int} (hp : InP t p) {e : Edge} (he : EdgeOk t e) {b : Nat} : metB t p e b = true ↔ e.lab * t.states + p.getD e.dst.toNat 0 ∈ rawG t p b := by
 unfold metB
 rw [List.any_eq_true, raw_mem]
 constructor
 ·rintro ⟨o, ho, h⟩
  simp only [Bool.and_eq_true, beq_iff_eq] at h
  exact ⟨o, ho, by rw [h.1, h.2]⟩
 ·rintro ⟨o, ho, h⟩
  have h1 := out_edge hv ho
  have h2 := hp.at h1.d0 h1.d1
  have h3 := hp.at he.d0 he.d1
  obtain ⟨e1, e2⟩ := code_inj h2.1 h2.2 h3.1 h3.2 h
  refine ⟨o, ho, ?_⟩
  rw [e1, e2]
  simp
theorem cov_iff {t : Lts} (hv : Valid t) {p : List Int} (hp : InP t p) {a b : Nat} : covB t p a b = true ↔ ∀ x ∈ rawG t p a, x ∈ rawG t p b := by
 unfold covB
 rw [List.all_eq_true]
 constructor
 ·rintro h x hx
  obtain ⟨e, he, rfl⟩ := raw_mem.1 hx
  exact (met_iff hv hp (out_edge hv he)).1 (h e he)
 ·intro h e he
  exact (met_iff hv hp (out_edge hv he)).2 (h _ (raw_mem.2 ⟨e, he, rfl⟩))
theorem sg_cov {t : Lts} (hv : Valid t) {p : List Int} (hp : InP t p) {a b : Nat} : sgT t p a = sgT t p b ↔ covB t p a b = true ∧ covB t p b a = true := by
 rw [sgT_iff, cov_iff hv hp, cov_iff hv hp]
 exact ⟨fun h => ⟨fun x => (h x).1, fun x => (h x).2⟩, fun h x => ⟨h.1 x, h.2 x⟩⟩
theorem sg_mono {t : Lts} (hv : Valid t) : MonoG (sgT t) t.states.toNat := by
 intro p q hpl hql hpr hqr hfine i j hi hj h
 have hS : ((t.states.toNat : Nat) : Int) = t.states := by have := hv.st0; omega
 have hp : InP t p := ⟨hpl, fun x hx => by have := hpr x hx; omega⟩
 have hq : InP t q := ⟨hql, fun x hx => by have := hqr x hx; omega⟩
 have key : ∀ i j : Nat, (∀ x ∈ rawG t q i, x ∈ rawG t q j) → ∀ x ∈ rawG t p i, x ∈ rawG t p j := by
  intro i j h x hx
  obtain ⟨e, he, rfl⟩ := raw_mem.1 hx
  obtain ⟨o, ho, h1⟩ := raw_mem.1 (h _ (raw_mem.2 ⟨e, he, rfl⟩))
  have ke := out_edge hv he
  have ko := out_edge hv ho
  have h2 := hq.at ke.d0 ke.d1
  have h3 := hq.at ko.d0 ko.d1
  obtain ⟨e1, e2⟩ := code_inj h3.1 h3.2 h2.1 h2.2 h1
  have := hfine o.dst.toNat e.dst.toNat (by have := ko.d0; have := ko.d1; omega) (by have := ke.d0; have := ke.d1; omega) e2
  exact raw_mem.2 ⟨o, ho, by rw [e1, this]⟩
 rw [sgT_iff] at h ⊢
 exact fun x => ⟨key i j (fun y => (h y).1) x, key j i (fun y => (h y).2) x⟩

/-- The partitions, round by round. -/
def lev (t : Lts) : Nat → List Int := partsG (sgT t) t.states.toNat
theorem lev_len (t : Lts) (r : Nat) : (lev t r).length = t.states.toNat := partsG_len _ _ r
theorem lev_in {t : Lts} (hv : Valid t) (r : Nat) : InP t (lev t r) := ⟨lev_len t r, fun x hx => by have := partsG_range (sgT t) r hx; have := hv.st0; omega⟩
theorem lev_zero (t : Lts) : lev t 0 = List.replicate t.states.toNat 0 := rfl
/-- The next round, as the reference makes it and as the program does. -/
theorem lev_ref (t : Lts) (r : Nat) : lev t (r + 1) = blocksL ((List.range t.states.toNat).map (sgT t (lev t r))) := rfl
theorem lev_imp {t : Lts} (hv : Valid t) (r : Nat) : blocksL ((List.range t.states.toNat).map fun i => (lev t r).getD i 0 :: sgT t (lev t r) i) = lev t (r + 1) := implStepG_eq (sg_mono hv) r
theorem lev_succ {t : Lts} {r i j : Nat} (hi : i < t.states.toNat) (hj : j < t.states.toNat) : (lev t (r + 1)).getD i 0 = (lev t (r + 1)).getD j 0 ↔ sgT t (lev t r) i = sgT t (lev t r) j := eqG_succ hi hj
/-- The round from which on nothing changes. -/
def lastR (t : Lts) : Nat := ((List.range t.states.toNat).find? fun r => lev t r == lev t (r + 1)).getD t.states.toNat
theorem last_ok {t : Lts} (hv : Valid t) : lastR t < t.states.toNat ∧ lev t (lastR t) = lev t (lastR t + 1) ∧ ∀ s, s < lastR t → lev t s ≠ lev t (s + 1) := by
 have hS : 0 < t.states.toNat := by have := hv.st0; omega
 cases hf : (List.range t.states.toNat).find? fun r => lev t r == lev t (r + 1) with
 | none =>
  exfalso
  rw [List.find?_eq_none] at hf
  have := roundsG_few (r := t.states.toNat) hS (sg_mono hv) fun s hs h => by
   have h1 := hf s (List.mem_range.2 hs)
   apply h1
   rw [beq_iff_eq]
   exact h
  omega
 | some r =>
  have hl : lastR t = r := by unfold lastR; rw [hf]; rfl
  rw [hl]
  rw [List.find?_range_eq_some] at hf
  obtain ⟨h1, h2, h3⟩ := hf
  refine ⟨List.mem_range.1 h2, by simpa using h1, fun s hs h => ?_⟩
  have h4 := h3 s hs
  rw [h] at h4
  simp at h4
def levs (t : Lts) : List (List Int) := (List.range (lastR t + 1)).map (lev t)

end Go.Proofs.YtjoacldbgnphkaaGreatDoor

namespace Go.Proofs.YtjoacldbgnphkaaGreatDoor
open Go Go.RowKit

theorem levs_len (t : Lts) : (levs t).length = lastR t + 1 := by simp [levs]
theorem levs_get {t : Lts} {k : Nat} (h : k < lastR t + 1) : (levs t)[k]? = some (lev t k) := by
 unfold levs
 rw [List.getElem?_map, List.getElem?_range h]
 rfl
/-- The first round in which two states are apart, 0 if there is none. -/
def sepR (t : Lts) (a b : Int) : Nat := ((List.range (lastR t + 1)).find? fun k => (lev t k).getD a.toNat 0 != (lev t k).getD b.toNat 0).getD 0
theorem lev_all (t : Lts) {i j : Nat} (hi : i < t.states.toNat) (hj : j < t.states.toNat) : (lev t 0).getD i 0 = (lev t 0).getD j 0 := by
 rw [lev_zero, List.getD_eq_getElem?_getD, List.getD_eq_getElem?_getD, List.getElem?_replicate, List.getElem?_replicate, if_pos hi, if_pos hj]
theorem sep_zero {t : Lts} {a b : Int} (ha : a.toNat < t.states.toNat) (hb : b.toNat < t.states.toNat) (h : sepR t a b = 0) : ∀ k, k ≤ lastR t → (lev t k).getD a.toNat 0 = (lev t k).getD b.toNat 0 := by
 unfold sepR at h
 cases hf : (List.range (lastR t + 1)).find? fun k => (lev t k).getD a.toNat 0 != (lev t k).getD b.toNat 0 with
 | none =>
  intro k hk
  rw [List.find?_eq_none] at hf
  have := hf k (List.mem_range.2 (by omega))
  simpa using this
 | some r =>
  rw [hf] at h
  have h0 : r = 0 := h
  subst h0
  rw [List.find?_range_eq_some] at hf
  have h1 := hf.1
  rw [lev_all t ha hb] at h1
  simp at h1
theorem sep_pos {t : Lts} {a b : Int} {d : Nat} (h : sepR t a b = d + 1) : d + 1 ≤ lastR t ∧ (lev t (d + 1)).getD a.toNat 0 ≠ (lev t (d + 1)).getD b.toNat 0 ∧ ∀ k, k ≤ d → (lev t k).getD a.toNat 0 = (lev t k).getD b.toNat 0 := by
 unfold sepR at h
 cases hf : (List.range (lastR t + 1)).find? fun k => (lev t k).getD a.toNat 0 != (lev t k).getD b.toNat 0 with
 | none => rw [hf] at h; cases h
 | some r =>
  rw [hf] at h
  have h0 : r = d + 1 := h
  subst h0
  rw [List.find?_range_eq_some] at hf
  obtain ⟨h1, h2, h3⟩ := hf
  refine ⟨by have := List.mem_range.1 h2; omega, by simpa using h1, fun k hk => ?_⟩
  have := h3 k (by omega)
  simpa using this
/-- States that are apart in a round. -/
theorem sep_le {t : Lts} {x y : Int} {k : Nat} (hx : x.toNat < t.states.toNat) (hy : y.toNat < t.states.toNat) (hk : k ≤ lastR t) (h : (lev t k).getD x.toNat 0 ≠ (lev t k).getD y.toNat 0) : 0 < sepR t x y ∧ sepR t x y ≤ k := by
 cases hs : sepR t x y with
 | zero => exact absurd (sep_zero hx hy hs k hk) h
 | succ d =>
  obtain ⟨-, -, h3⟩ := sep_pos hs
  refine ⟨Nat.succ_pos _, Nat.le_of_not_lt fun hlt => h (h3 k (by omega))⟩
theorem sep_comm (t : Lts) (a b : Int) : sepR t a b = sepR t b a := by
 unfold sepR
 congr 2
 funext k
 exact Bool.eq_iff_iff.2 ⟨fun h => by simp at h ⊢; exact fun e => h e.symm, fun h => by simp at h ⊢; exact fun e => h e.symm⟩
/-- The first edge from a that no edge from b meets. -/
def loneE (t : Lts) (p : List Int) (a b : Int) : Option Edge := (outOf t a).find? fun e => !metB t p e b
theorem lone_none {t : Lts} {p : List Int} {a b : Int} : loneE t p a b = none ↔ covB t p a b = true := by
 unfold loneE covB
 rw [List.find?_eq_none, List.all_eq_true]
 simp
theorem lone_some {t : Lts} {p : List Int} {a b : Int} {e : Edge} (h : loneE t p a b = some e) : e ∈ outOf t a ∧ metB t p e b = false := by
 unfold loneE at h
 exact ⟨List.mem_of_find?_eq_some h, by simpa using List.find?_some h⟩
/-- States that part in a round have an edge that is not met. -/
theorem lone_is {t : Lts} (hv : Valid t) {a b : Int} (ha : 0 ≤ a ∧ a < t.states) (hb : 0 ≤ b ∧ b < t.states) {d : Nat} (h : sepR t a b = d + 1) : loneE t (lev t d) a b ≠ none ∨ loneE t (lev t d) b a ≠ none := by
 obtain ⟨-, h2, -⟩ := sep_pos h
 rw [ne_eq, lev_succ (by omega) (by omega), sg_cov hv (lev_in hv d)] at h2
 have ea : ((a.toNat : Nat) : Int) = a := by omega
 have eb : ((b.toNat : Nat) : Int) = b := by omega
 rw [ea, eb, ← lone_none, ← lone_none] at h2
 exact Classical.not_and_iff_not_or_not.1 h2
/-- Where the edges from a state under a label end. -/
def endsG (t : Lts) (k l : Int) : List Int := ((outOf t k).filter fun o => o.lab == l).map Edge.dst
theorem ends_mem {t : Lts} {k l x : Int} : x ∈ endsG t k l ↔ ∃ o ∈ outOf t k, o.lab = l ∧ o.dst = x := by
 unfold endsG
 rw [List.mem_map]
 constructor
 ·rintro ⟨o, ho, rfl⟩
  rw [List.mem_filter, beq_iff_eq] at ho
  exact ⟨o, ho.1, ho.2, rfl⟩
 ·rintro ⟨o, ho, hl, rfl⟩
  exact ⟨o, List.mem_filter.2 ⟨ho, by simpa using hl⟩, rfl⟩
/-- The end of an edge that is not met, and the ends under its label, part earlier. -/
theorem sep_ends {t : Lts} (hv : Valid t) {a b : Int} {d : Nat} (hd : d ≤ lastR t) {e : Edge} (h : loneE t (lev t d) a b = some e) {y : Int} (hy : y ∈ endsG t b e.lab) : 0 < sepR t e.dst y ∧ sepR t e.dst y ≤ d := by
 obtain ⟨he, hm⟩ := lone_some h
 obtain ⟨o, ho, hl, rfl⟩ := ends_mem.1 hy
 have ke := out_edge hv he
 have ko := out_edge hv ho
 refine sep_le (by have := ke.d0; have := ke.d1; omega) (by have := ko.d0; have := ko.d1; omega) hd fun hq => ?_
 unfold metB at hm
 rw [List.any_eq_false] at hm
 have := hm o ho
 rw [hl, hq] at this
 simp at this

/-- A node: its kind and its label. -/
structure Nd where
 kind : Int
 label : ByteArray
deriving DecidableEq
def joinD (kind : Int) : List (List Nd) → List Nd
 | [] => []
 | f :: r => if r = [] then f else ⟨kind, ByteArray.empty⟩ :: (f ++ joinD kind r)
def diffL (fs : List (List Nd)) : List (List Nd) := fs.foldl (fun acc f => if f ∈ acc then acc else acc ++ [f]) []
def joinN (kind none : Int) (fs : List (List Nd)) : List Nd := if diffL fs = [] then [⟨none, ByteArray.empty⟩] else joinD kind (diffL fs)
/-- A modality over joined formulas; nothing where one of these is too long, or it is. -/
def buildN (kind join none : Int) (l : ByteArray) (fs : List (List Nd)) : List Nd :=
 if [] ∈ fs then [] else if 200 < (joinN join none fs).length + 1 then [] else ⟨kind, l⟩ :: joinN join none fs
def tellN (t : Lts) : Nat → Int → Int → List Nd
 | 0, _, _ => []
 | f + 1, a, b =>
  if sepR t a b = 0 then []
  else ((loneE t (lev t (sepR t a b - 1)) a b).map fun e => buildN 4 2 0 (labAt t e) ((endsG t b e.lab).map fun y => tellN t f e.dst y)).getD
   (((loneE t (lev t (sepR t a b - 1)) b a).map fun e => buildN 5 3 1 (labAt t e) ((endsG t a e.lab).map fun x => tellN t f x e.dst)).getD [])
theorem out_ok2 {t : Lts} (hv : Valid t) {k : Int} {e : Edge} (h : e ∈ outOf t k) : 0 ≤ e.dst ∧ e.dst < t.states := ⟨(out_edge hv h).d0, (out_edge hv h).d1⟩
theorem ends_in {t : Lts} (hv : Valid t) {k l x : Int} (h : x ∈ endsG t k l) : 0 ≤ x ∧ x < t.states := by
 obtain ⟨o, ho, -, rfl⟩ := ends_mem.1 h
 exact out_ok2 hv ho
/-- More fuel than rounds changes nothing. -/
theorem tell_fuel {t : Lts} (hv : Valid t) : ∀ (f g : Nat) (a b : Int), (0 ≤ a ∧ a < t.states) → (0 ≤ b ∧ b < t.states) → sepR t a b ≤ f → sepR t a b ≤ g → tellN t f a b = tellN t g a b
 | 0, 0, _, _, _, _, _, _ => rfl
 | 0, g + 1, a, b, _, _, h, _ => by
  have : sepR t a b = 0 := by omega
  show [] = tellN t (g + 1) a b
  unfold tellN
  rw [if_pos this]
 | f + 1, 0, a, b, _, _, _, h => by
  have : sepR t a b = 0 := by omega
  show tellN t (f + 1) a b = []
  unfold tellN
  rw [if_pos this]
 | f + 1, g + 1, a, b, ha, hb, hf, hg => by
  unfold tellN
  by_cases h0 : sepR t a b = 0
  ·rw [if_pos h0, if_pos h0]
  ·rw [if_neg h0, if_neg h0]
   obtain ⟨d, hd⟩ : ∃ d, sepR t a b = d + 1 := ⟨sepR t a b - 1, by omega⟩
   have hdl := (sep_pos hd).1
   rw [hd, Nat.add_sub_cancel]
   rw [hd] at hf hg
   have e1 : ∀ e, loneE t (lev t d) a b = some e → ((endsG t b e.lab).map fun y => tellN t f e.dst y) = (endsG t b e.lab).map fun y => tellN t g e.dst y := fun e he =>
    List.map_congr_left fun y hy => by
     have h1 := sep_ends hv (by omega) he hy
     exact tell_fuel hv f g _ _ (out_ok2 hv (lone_some he).1) (ends_in hv hy) (by omega) (by omega)
   have e2 : ∀ e, loneE t (lev t d) b a = some e → ((endsG t a e.lab).map fun x => tellN t f x e.dst) = (endsG t a e.lab).map fun x => tellN t g x e.dst := fun e he =>
    List.map_congr_left fun y hy => by
     have h1 := sep_ends hv (by omega) he hy
     rw [sep_comm] at h1
     exact tell_fuel hv f g _ _ (ends_in hv hy) (out_ok2 hv (lone_some he).1) (by omega) (by omega)
   cases h1 : loneE t (lev t d) a b with
   | some e => simp only [Option.map_some, Option.getD_some]; rw [e1 e h1]
   | none =>
    simp only [Option.map_none, Option.getD_none]
    cases h2 : loneE t (lev t d) b a with
    | some e => simp only [Option.map_some, Option.getD_some]; rw [e2 e h2]
    | none => rfl
/-- The formula of a pair. -/
def tellT (t : Lts) (a b : Int) : List Nd := tellN t (sepR t a b) a b
theorem tell_some {t : Lts} (hv : Valid t) {a b : Int} {d : Nat} (hd : sepR t a b = d + 1) {e : Edge} (he : loneE t (lev t d) a b = some e) :
  tellT t a b = buildN 4 2 0 (labAt t e) ((endsG t b e.lab).map fun y => tellT t e.dst y) := by
 have hg : tellT t a b = tellN t (d + 1) a b := by unfold tellT; rw [hd]
 rw [hg]
 conv => lhs; unfold tellN
 rw [if_neg (by omega), hd, Nat.add_sub_cancel, he]
 simp only [Option.map_some, Option.getD_some]
 congr 1
 refine List.map_congr_left fun y hy => ?_
 have h1 := sep_ends hv (by have := (sep_pos hd).1; omega) he hy
 exact tell_fuel hv d (sepR t e.dst y) _ _ (out_ok2 hv (lone_some he).1) (ends_in hv hy) (by omega) (Nat.le_refl _)
theorem tell_none {t : Lts} (hv : Valid t) {a b : Int} {d : Nat} (hd : sepR t a b = d + 1) (h0 : loneE t (lev t d) a b = none) {e : Edge} (he : loneE t (lev t d) b a = some e) :
  tellT t a b = buildN 5 3 1 (labAt t e) ((endsG t a e.lab).map fun x => tellT t x e.dst) := by
 have hg : tellT t a b = tellN t (d + 1) a b := by unfold tellT; rw [hd]
 rw [hg]
 conv => lhs; unfold tellN
 rw [if_neg (by omega), hd, Nat.add_sub_cancel, h0, he]
 simp only [Option.map_some, Option.getD_some, Option.map_none, Option.getD_none]
 congr 1
 refine List.map_congr_left fun y hy => ?_
 have h1 := sep_ends hv (by have := (sep_pos hd).1; omega) he hy
 rw [sep_comm] at h1
 exact tell_fuel hv d (sepR t y e.dst) _ _ (ends_in hv hy) (out_ok2 hv (lone_some he).1) (by omega) (Nat.le_refl _)
end Go.Proofs.YtjoacldbgnphkaaGreatDoor

namespace Go.Proofs.YtjoacldbgnphkaaGreatDoor
open Go Go.RowKit


theorem edgeLess_iff (a b : Edge) : edgeLess a b = true ↔ (a.src < b.src ∨ (a.src = b.src ∧ (a.lab < b.lab ∨ (a.lab = b.lab ∧ a.dst < b.dst)))) := by
 unfold edgeLess
 split
 ·rw [decide_eq_true_eq]; omega
 ·split
  ·rw [decide_eq_true_eq]; omega
  ·rw [decide_eq_true_eq]; omega
end Go.Proofs.YtjoacldbgnphkaaGreatDoor

namespace Go.Proofs.YtjoacldbgnphkaaGreatDoor
open Go Go.RowKit


theorem joinD_cons (kind : Int) (f : List Nd) {r : List (List Nd)} (h : r ≠ []) : joinD kind (f :: r) = ⟨kind, ByteArray.empty⟩ :: (f ++ joinD kind r) := by
 show (if r = [] then f else _) = _
 rw [if_neg h]
theorem joinD_one (kind : Int) (f : List Nd) : joinD kind [f] = f := by
 show (if ([] : List (List Nd)) = [] then f else _) = _
 rw [if_pos rfl]
/-- As the reference makes it: front to back. -/
def joinP (kind : Int) (L : List (List Nd)) : List Nd := L.flatMap fun f => ⟨kind, ByteArray.empty⟩ :: f
theorem joinP_snoc (kind : Int) (L : List (List Nd)) (x : List Nd) : joinP kind (L ++ [x]) = joinP kind L ++ (⟨kind, ByteArray.empty⟩ :: x) := by simp [joinP]
theorem joinD_snoc (kind : Int) (x : List Nd) : ∀ L : List (List Nd), joinD kind (L ++ [x]) = joinP kind L ++ x
 | [] => joinD_one kind x
 | f :: L => by
  rw [List.cons_append, joinD_cons kind f (by simp), joinD_snoc kind x L]
  simp [joinP]
def sumN (L : List (List Nd)) : Nat := (L.map fun f => f.length + 1).sum
theorem sumN_snoc (L : List (List Nd)) (x : List Nd) : sumN (L ++ [x]) = sumN L + (x.length + 1) := by simp [sumN]
theorem joinP_len (kind : Int) : ∀ L : List (List Nd), (joinP kind L).length = sumN L
 | [] => rfl
 | f :: L => by
  have ih := joinP_len kind L
  unfold joinP sumN at *
  simp [ih]
  omega
theorem joinD_len (kind : Int) {L : List (List Nd)} (h : L ≠ []) : (joinD kind L).length + 1 = sumN L := by
 obtain ⟨M, x, rfl⟩ : ∃ M x, L = M ++ [x] := ⟨L.dropLast, L.getLast h, (List.dropLast_concat_getLast h).symm⟩
 rw [joinD_snoc, sumN_snoc, List.length_append, joinP_len]
 omega
/-- Each formula once. -/
def addD (acc : List (List Nd)) (f : List Nd) : List (List Nd) := if f ∈ acc then acc else acc ++ [f]
theorem diffL_snoc (fs : List (List Nd)) (f : List Nd) : diffL (fs ++ [f]) = addD (diffL fs) f := by unfold diffL; rw [List.foldl_append]; rfl
theorem diffL_nil : diffL [] = [] := rfl
theorem diffL_mem : ∀ (fs : List (List Nd)) (f : List Nd), f ∈ diffL fs ↔ f ∈ fs := by
 have h : ∀ (m acc : List (List Nd)) (f : List Nd), f ∈ m.foldl (fun acc f => if f ∈ acc then acc else acc ++ [f]) acc ↔ f ∈ acc ∨ f ∈ m := by
  intro m
  induction m with
  | nil => intro acc f; simp
  | cons y m ih =>
   intro acc f
   rw [List.foldl_cons, ih]
   by_cases h : y ∈ acc
   ·rw [if_pos h, List.mem_cons]
    constructor
    ·rintro (h1 | h1)
     ·exact .inl h1
     ·exact .inr (.inr h1)
    ·rintro (h1 | rfl | h1)
     ·exact .inl h1
     ·exact .inl h
     ·exact .inr h1
   ·rw [if_neg h, List.mem_append, List.mem_singleton, List.mem_cons, or_assoc]
 intro fs f
 unfold diffL
 rw [h]
 simp
theorem diffL_empty {fs : List (List Nd)} : diffL fs = [] ↔ fs = [] := by
 constructor
 ·intro h
  cases fs with
  | nil => rfl
  | cons f r =>
   have := (diffL_mem (f :: r) f).2 (List.mem_cons_self ..)
   rw [h] at this
   cases this
 ·rintro rfl; rfl
/-- What is built, where none of the formulas is missing. -/
theorem build_ok {kind join none : Int} {l : ByteArray} {fs : List (List Nd)} (h : [] ∉ fs) (hne : fs ≠ []) : buildN kind join none l fs = if 200 < sumN (diffL fs) then [] else ⟨kind, l⟩ :: joinD join (diffL fs) := by
 have hd : diffL fs ≠ [] := fun e => hne (diffL_empty.1 e)
 unfold buildN joinN
 rw [if_neg h, if_neg hd, joinD_len join hd]
theorem build_none {kind join none : Int} {l : ByteArray} : buildN kind join none l [] = [⟨kind, l⟩, ⟨none, ByteArray.empty⟩] := by
 unfold buildN joinN
 rw [if_neg (by simp), if_pos diffL_nil, if_neg (by simp)]
theorem build_short {kind join none : Int} {l : ByteArray} (fs : List (List Nd)) : (buildN kind join none l fs).length ≤ 200 := by
 unfold buildN
 by_cases h1 : [] ∈ fs
 ·rw [if_pos h1]; simp
 ·rw [if_neg h1]
  by_cases h2 : 200 < (joinN join none fs).length + 1
  ·rw [if_pos h2]; simp
  ·rw [if_neg h2, List.length_cons]; omega
theorem tell_short (t : Lts) : ∀ (f : Nat) (a b : Int), (tellN t f a b).length ≤ 200
 | 0, _, _ => by simp [tellN]
 | f + 1, a, b => by
  unfold tellN
  by_cases h0 : sepR t a b = 0
  ·rw [if_pos h0]; simp
  ·rw [if_neg h0]
   cases loneE t (lev t (sepR t a b - 1)) a b with
   | some e => simp only [Option.map_some, Option.getD_some]; exact build_short _
   | none =>
    simp only [Option.map_none, Option.getD_none]
    cases loneE t (lev t (sepR t a b - 1)) b a with
    | some e => simp only [Option.map_some, Option.getD_some]; exact build_short _
    | none => simp
theorem tellT_short (t : Lts) (a b : Int) : (tellT t a b).length ≤ 200 := tell_short t _ a b

/-- The ends under a label, in order. -/
theorem ends_asc {t : Lts} (hv : Valid t) (k l : Int) : (endsG t k l).Pairwise (· < ·) := by
 have hr : t.edges.Pairwise fun a b => edgeLess a b = true := by
  rw [List.pairwise_iff_getElem]
  intro i j hi hj hij
  induction j with
  | zero => omega
  | succ j ih =>
   have h1 := hv.rise j hj
   rcases Nat.lt_or_ge i j with hlt | hge
   ·have h2 := ih (by omega) hlt
    rw [edgeLess_iff] at *
    omega
   ·obtain rfl : i = j := by omega
    exact h1
 unfold endsG outOf
 rw [List.pairwise_map, List.pairwise_filter, List.pairwise_filter]
 refine hr.imp fun {a b} h ha hb ka kb => ?_
 simp only [beq_iff_eq] at ha hb ka kb
 rw [edgeLess_iff] at h
 omega
theorem ends_follow {t : Lts} (hv : Valid t) (k : Int) {n : Nat} (hn : n < t.labels.length) : followL t [k] t.labels[n] = endsG t k n := by
 refine IsSet.unique (followL_is hv [k] hn) ⟨fun x => ?_, ends_asc hv k n⟩
 rw [ends_mem]
 unfold behindP
 constructor
 ·rintro ⟨o, ho, hl, rfl⟩
  exact ⟨o, (List.mem_filter.1 ho).1, hl, by rw [out_src ho]; simp, rfl⟩
 ·rintro ⟨o, ho, hl, hs, rfl⟩
  exact ⟨o, List.mem_filter.2 ⟨ho, by simpa using hs⟩, hl, rfl⟩

end Go.Proofs.YtjoacldbgnphkaaGreatDoor
