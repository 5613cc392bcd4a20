/-
  What the implementation's functions on numbers' texts compute: strconv by the shelf's contracts.
  Sets of states as ascending lists; what internal edges reach; the deterministic system of a system, found row for row. Plain definitions; no program in sight.
  Lists in ascending order: one list for each set; what is left of a sorted list when equal neighbours are made one.
  The library's Sort, Compact and Clone at lists of numbers of the call's own.
  What the implementation's follow computes, from any list of states.
  Plain laws for follow and internal: what follow lists is a set; a list that grows until it is closed under internal edges.
  A round of the greatest simulation, as the program asks for it. Plain.
  Sets of pairs as lists: the program's rounds. Plain.
  A map that numbers its keys in the order in which they came.
  Greatest sets of pairs for any test of a pair; the program's rounds, key by key. Plain.
  A map that holds a set: each key leads to true; ranging over it.
  Ranging over a set that is a map: the laws at the operations.
  Pairs of states as keys of a map.
-/
import Derived.Test.YtbjbjbnbapeajaaGreatDoorP3
import Derived.Test.YtbjbjbnbapeajaaGreatDoorP4
import Derived.WalkSmall
import Derived.Lib.AppendIntMem
import Derived.Lib.SlicesCompact
import Derived.Lib.RowBridge
import Derived.Sort.OwnSortedInts
import Derived.Lib.OwnBridge
import Derived.Test.YtbjbjbnbapeajaaGreatDoorP1
import Derived.Maps.OwnOps
import Derived.Maps.RangeRun
import Derived.Maps.RangeWalk
import Derived.Test.YtbjbjbnbapeajaaGreatDoorProg
import Derived.DeepKeys4
namespace Go.Proofs.YtbjbjbnbapeajaaGreatDoor
open Go Go.RowKit

/-- What the library's own variables hold. -/
structure Glob (w : World) : Prop where
 max : ∃ m, w.cell? ⟨0, 0, none⟩ = some (.int .i64 m)
 syn : ∃ ev, w.cell? ⟨1, 0, none⟩ = some ev ∧ (ev = .nilIface ∨ ∃ te pe, ev = .iface te pe)
 rng : ∃ ev, w.cell? ⟨2, 0, none⟩ = some ev ∧ (ev = .nilIface ∨ ∃ te pe, ev = .iface te pe)
 tab : Lib.TabIs Tryz.prog w "internal/strconv.uint64pow10" .u64 Lib.pow10Tab

theorem Glob.below {w w' : World} (h : Glob w) (hb : Below w.heap.size w w') : Glob w' := by
 obtain ⟨⟨m, h1⟩, ⟨e1, h2, h2'⟩, ⟨e2, h3, h3'⟩, h4⟩ := h
 have hg : Tryz.prog.globalNamed "internal/strconv.uint64pow10" = some 5 := by kernel_rfl
 have hlt : 5 < w.heap.size := by
  have h5 := h4
  unfold Lib.TabIs World.var? at h5
  rw [hg] at h5
  simp only [Option.bind_some] at h5
  rcases Nat.lt_or_ge 5 w.heap.size with h | h
  ·exact h
  ·rw [Array.getElem?_eq_none h] at h5; simp at h5
 refine ⟨⟨m, keeps hb (World.block_lt_of_cell? w _ h1) h1⟩, ⟨e1, keeps hb (World.block_lt_of_cell? w _ h2) h2, h2'⟩, ⟨e2, keeps hb (World.block_lt_of_cell? w _ h3) h3, h3'⟩, ?_⟩
 exact var?_below hb hg hlt h4

theorem Decimal_any (n : Int) (w : World) (h0 : -9223372036854775808 ≤ n) (h1 : n ≤ 9223372036854775807) (g : Glob w) :
  Calls Tryz.prog 156 #[.int .i64 n] w fun e w' => e = .returned (.string ⟨(Lib.itoa n).toArray⟩) ∧ Below w.heap.size w w' := by
 have G := Lib.hid g.tab
 have H0 := Lib.hid h0
 have H1 := Lib.hid h1
 clear g h0 h1
 go_enter Tryz.func156, Tryz.ntmps156
 go_wp2_with fail
 refine (Tryz.strconv_FormatInt_10 n H0.out H1.out _ G.out).mono ?_
 rintro e w' ⟨rfl, k, os, rfl⟩
 have HB : Hid (Below w.heap.size w (Go.Sort.grow (w.drewN k) os)) := Lib.below_grow _ w (Nat.le_refl _) k os
 go_wp2_with fail
 go_ret
 exact ⟨rfl, HB.out⟩

/-- What ReadDecimal reads. -/
def readDec (l : List UInt8) : Option Int :=
 if 18 < (Lib.trimPrefix l [45]).length then none
 else match Lib.parseIntB 64 l with
  | .ok n => if Lib.itoa n = l then some n else none
  | _ => none

/-- ReadDecimal's answer. -/
def RetDec (l : List UInt8) (w : World) (e : Ending) (w' : World) : Prop := e = .returned (.tuple #[.int .i64 ((readDec l).getD 0), .bool (readDec l).isSome]) ∧ Below w.heap.size w w'

theorem ReadDecimal_any (s : ByteArray) (w : World) (hs : s.size ≤ 1073741824) (g : Glob w) : Calls Tryz.prog 123 #[.string s] w (RetDec s.data.toList w) := by
 have G := Lib.hid g
 clear g
 by_cases h18 : 18 < (Lib.trimPrefix s.data.toList [45]).length
 ·have HF : Hid (readDec s.data.toList = none) := by unfold Hid readDec; rw [if_pos h18]
  have HL := Lib.hid h18
  go_enter Tryz.func123, Tryz.ntmps123
  go_wp2_with fail
  refine (Tryz.strings_TrimPrefix s ⟨#[45]⟩ _).mono ?_
  rintro e w' ⟨rfl, rfl⟩
  have h18' : 18 < ((Lib.trimPrefix s.data.toList [45]).length : Int) := by omega
  clear h18
  go_wp2_with fail
  go_ret2
  unfold RetDec
  rw [HF.out]
  exact ⟨rfl, Below.refl _ _⟩
 ·have h18' : ¬ 18 < ((Lib.trimPrefix s.data.toList [45]).length : Int) := by omega
  have HR : Hid (readDec s.data.toList = match Lib.parseIntB 64 s.data.toList with
   | .ok n => if Lib.itoa n = s.data.toList then some n else none
   | _ => none) := by unfold Hid readDec; rw [if_neg h18]
  clear h18
  rcases hp : Lib.parseIntB 64 s.data.toList with v | _ | _
  ·have HP := Lib.hid hp
   have hbd := Lib.parseIntB_bounds hp
   have HB1 : Hid (-9223372036854775808 ≤ v) := by have := hbd.1; unfold Hid; simpa using this
   have HB2 : Hid (v ≤ 9223372036854775807) := by have := hbd.2; unfold Hid; simp at this; omega
   rw [hp] at HR
   clear hp hbd
   go_enter Tryz.func123, Tryz.ntmps123
   go_wp2_with fail
   refine (Tryz.strings_TrimPrefix s ⟨#[45]⟩ _).mono ?_
   rintro e w' ⟨rfl, rfl⟩
   go_wp2_with fail
   refine (Tryz.strconv_ParseInt_10_at64_ok s (by omega) v HP.out _).mono ?_
   rintro e w1 ⟨rfl, hw1⟩
   have HB3 : Hid (Below w'.heap.size w' w1) := by
    rcases hw1 with rfl | ⟨t, rfl⟩
    ·exact Below.refl _ _
    ·exact Lib.bytesWorld_below _ _ _
   clear hw1
   go_wp2_with fail
   refine (Decimal_any v _ HB1.out HB2.out (G.out.below HB3.out)).mono ?_
   rintro e w2 ⟨rfl, hb2⟩
   have HB4 := Lib.hid hb2
   clear hb2
   by_cases hq : Lib.itoa v = s.data.toList
   ·have HF : Hid (readDec s.data.toList = some v) := by unfold Hid; rw [HR.out, if_pos hq]
    go_wp2_with fail
    go_ret2
    unfold RetDec
    rw [HF.out]
    exact ⟨rfl, HB3.out.trans (HB4.out.mono HB3.out.size)⟩
   ·have HF : Hid (readDec s.data.toList = none) := by unfold Hid; rw [HR.out, if_neg hq]
    have hq' : (!Lib.itoa v == s.toList) = true := by rw [Lib.toList_data]; simpa using hq
    go_wp2_with fail
    go_ret2
    unfold RetDec
    rw [HF.out]
    exact ⟨rfl, HB3.out.trans (HB4.out.mono HB3.out.size)⟩
  ·have HP := Lib.hid hp
   rw [hp] at HR
   clear hp
   obtain ⟨ev, hv, hev⟩ := G.out.syn
   have HV := Lib.hid hv
   have HE := Lib.hid hev
   clear hv hev
   go_enter Tryz.func123, Tryz.ntmps123
   go_wp2_with fail
   refine (Tryz.strings_TrimPrefix s ⟨#[45]⟩ _).mono ?_
   rintro e w' ⟨rfl, rfl⟩
   go_wp2_with fail
   refine (Any.strconv_ParseInt_10_at64_syntax Tryz.laysC174 s (by omega) HP.out ev _ HV.out HE.out).mono ?_
   rintro e w1 ⟨N, rfl, -, -, hb⟩
   have HB3 := Lib.hid hb
   clear hb
   go_wp2_with fail
   go_ret2
   unfold RetDec
   rw [HR.out]
   exact ⟨rfl, HB3.out⟩
  ·have HP := Lib.hid hp
   rw [hp] at HR
   clear hp
   obtain ⟨ev, hv, hev⟩ := G.out.rng
   have HV := Lib.hid hv
   have HE := Lib.hid hev
   clear hv hev
   go_enter Tryz.func123, Tryz.ntmps123
   go_wp2_with fail
   refine (Tryz.strings_TrimPrefix s ⟨#[45]⟩ _).mono ?_
   rintro e w' ⟨rfl, rfl⟩
   go_wp2_with fail
   refine (Tryz.strconv_ParseInt_10_at64_range s (by omega) HP.out ev _ HV.out HE.out).mono ?_
   rintro e w1 ⟨N, rfl, -, -, hb⟩
   have HB3 := Lib.hid hb
   clear hb
   go_wp2_with fail
   go_ret2
   unfold RetDec
   rw [HR.out]
   exact ⟨rfl, HB3.out⟩

end Go.Proofs.YtbjbjbnbapeajaaGreatDoor

namespace Go.Proofs.YtbjbjbnbapeajaaGreatDoor
open Go Go.RowKit

/-- A list that has just the members P, ascending. -/
structure IsSet (P : Int → Prop) (l : List Int) : Prop where
 mem : ∀ x, x ∈ l ↔ P x
 asc : l.Pairwise (· < ·)

theorem asc_unique : ∀ (l m : List Int), l.Pairwise (· < ·) → m.Pairwise (· < ·) → (∀ x, x ∈ l ↔ x ∈ m) → l = m
 | [], [], _, _, _ => rfl
 | [], b :: m, _, _, h => by have := (h b).2 (by simp); simp at this
 | a :: l, [], _, _, h => by have := (h a).1 (by simp); simp at this
 | a :: l, b :: m, hl, hm, h => by
  rw [List.pairwise_cons] at hl hm
  have e : a = b := by
   have h1 := (h a).1 (by simp)
   have h2 := (h b).2 (by simp)
   rw [List.mem_cons] at h1 h2
   rcases h1 with h1 | h1
   ·exact h1
   ·rcases h2 with h2 | h2
    ·exact h2.symm
    ·have := hm.1 a h1
     have := hl.1 b h2
     omega
  subst e
  rw [asc_unique l m hl.2 hm.2 fun x => ?_]
  constructor
  ·intro hx
   have h1 := (h x).1 (by simp [hx])
   rw [List.mem_cons] at h1
   rcases h1 with h1 | h1
   ·have := hl.1 x hx; omega
   ·exact h1
  ·intro hx
   have h1 := (h x).2 (by simp [hx])
   rw [List.mem_cons] at h1
   rcases h1 with h1 | h1
   ·have := hm.1 x hx; omega
   ·exact h1
theorem IsSet.unique {P : Int → Prop} {l m : List Int} (hl : IsSet P l) (hm : IsSet P m) : l = m :=
 asc_unique l m hl.asc hm.asc fun x => (hl.mem x).trans (hm.mem x).symm
theorem IsSet.congr {P Q : Int → Prop} {l : List Int} (hl : IsSet P l) (h : ∀ x, P x ↔ Q x) : IsSet Q l := ⟨fun x => (hl.mem x).trans (h x), hl.asc⟩

noncomputable section
end

noncomputable section
end

end Go.Proofs.YtbjbjbnbapeajaaGreatDoor

namespace Go.Proofs.YtbjbjbnbapeajaaGreatDoor
open Go Go.RowKit

theorem compact_upto {α : Type} [Inhabited α] [DecidableEq α] (lt : α → α → Prop) (ht : ∀ a b c, lt a b → lt b c → lt a c) (d : Array α) (hs : ∀ i j, i < j → j < d.size → d[i]! = d[j]! ∨ lt d[i]! d[j]!) :
  ∀ m, m ≤ d.size → (Lib.compactUpTo d m).Pairwise lt ∧ ∀ x, x ∈ Lib.compactUpTo d m ↔ ∃ j, j < m ∧ d[j]! = x
 | 0, _ => ⟨by simp [Lib.compactUpTo], fun x => by simp [Lib.compactUpTo]⟩
 | m + 1, hm => by
  obtain ⟨h1, h2⟩ := compact_upto lt ht d hs m (by omega)
  rw [Lib.compactUpTo_succ]
  by_cases hk : Lib.keeps d m = true
  ·rw [if_pos hk]
   refine ⟨?_, fun x => ?_⟩
   ·rw [List.pairwise_append]
    refine ⟨h1, by simp, fun a ha b hb => ?_⟩
    rw [List.mem_singleton] at hb
    subst hb
    obtain ⟨j, hj, rfl⟩ := (h2 a).1 ha
    unfold Lib.keeps at hk
    rw [decide_eq_true_eq] at hk
    rcases hk with hk | hk
    ·omega
    ·have hl : lt d[m - 1]! d[m]! := by
      rcases hs (m - 1) m (by omega) (by omega) with e | e
      ·exact absurd e.symm hk
      ·exact e
     by_cases hjm : j = m - 1
     ·rw [hjm]; exact hl
     ·rcases hs j (m - 1) (by omega) (by omega) with e | e
      ·rw [e]; exact hl
      ·exact ht _ _ _ e hl
   ·rw [List.mem_append, h2, List.mem_singleton]
    constructor
    ·rintro (⟨j, hj, e⟩ | e)
     ·exact ⟨j, by omega, e⟩
     ·exact ⟨m, by omega, e.symm⟩
    ·rintro ⟨j, hj, e⟩
     by_cases hjm : j = m
     ·subst hjm; exact .inr e.symm
     ·exact .inl ⟨j, by omega, e⟩
  ·rw [if_neg hk, List.append_nil]
   refine ⟨h1, fun x => ?_⟩
   rw [h2]
   have hk' : m ≠ 0 ∧ d[m]! = d[m - 1]! := by
    unfold Lib.keeps at hk
    rw [decide_eq_true_eq, not_or, Classical.not_not] at hk
    exact hk
   constructor
   ·rintro ⟨j, hj, e⟩
    exact ⟨j, by omega, e⟩
   ·rintro ⟨j, hj, e⟩
    by_cases hjm : j = m
    ·subst hjm
     exact ⟨j - 1, by omega, by rw [← hk'.2]; exact e⟩
    ·exact ⟨j, by omega, e⟩
theorem compact_is {α : Type} [Inhabited α] [DecidableEq α] (lt : α → α → Prop) (ht : ∀ a b c, lt a b → lt b c → lt a c) (zs : List α) (hs : zs.Pairwise fun a b => a = b ∨ lt a b) :
  (Lib.compact zs).Pairwise lt ∧ ∀ x, x ∈ Lib.compact zs ↔ x ∈ zs := by
 have hp := List.pairwise_iff_getElem.1 hs
 have hg : ∀ i (h : i < zs.length), zs.toArray[i]! = zs[i] := fun i h => by
  rw [getElem!_pos zs.toArray i (by simpa using h)]
  simp
 obtain ⟨h1, h2⟩ := compact_upto lt ht zs.toArray (fun i j hij hj => by
  have hj' : j < zs.length := by simpa using hj
  rw [hg i (by omega), hg j hj']
  exact hp i j (by omega) hj' hij) zs.length (by simp)
 refine ⟨h1, fun x => ?_⟩
 unfold Lib.compact
 rw [h2, List.mem_iff_getElem]
 constructor
 ·rintro ⟨j, hj, e⟩
  exact ⟨j, hj, by rw [← hg j hj]; exact e⟩
 ·rintro ⟨j, hj, e⟩
  exact ⟨j, hj, by rw [hg j hj]; exact e⟩

/-- A list that is sorted in numbers, then its equal neighbours made one: the set's list. -/
theorem sort_compact_is (xs : List Int) : IsSet (fun x => x ∈ xs) (Lib.compact (xs.mergeSort fun x y => decide (x ≤ y))) := by
 have hs : (xs.mergeSort fun x y => decide (x ≤ y)).Pairwise fun a b => a = b ∨ a < b := by
  have := List.pairwise_mergeSort (le := fun (x y : Int) => decide (x ≤ y)) (fun a b c h1 h2 => by simp at *; omega) (fun a b => by simp; omega) xs
  exact this.imp fun h => by simp at h; omega
 obtain ⟨h1, h2⟩ := compact_is (fun a b : Int => a < b) (fun a b c h k => by omega) _ hs
 exact ⟨fun x => (h2 x).trans List.mem_mergeSort, h1⟩
end Go.Proofs.YtbjbjbnbapeajaaGreatDoor

namespace Go.Proofs.YtbjbjbnbapeajaaGreatDoor
open Go Go.RowKit

theorem Sort_own (base : Nat) (v : Value) (xs : List Int) (w : World) (ho : w.ownsRow base 2 1 v xs.length (xs.map (Value.int .i64))) (hz : xs.length ≤ 1048576) :
  Calls Tryz.prog 144 #[v] w fun e w' => e = .returned (.tuple #[]) ∧ w'.ownsRow base 2 1 v xs.length ((xs.mergeSort fun x y => decide (x ≤ y)).map (Value.int .i64)) ∧ w.grownBy w' v.ownBlock := by
 rcases ho.2 with ⟨rfl, h0⟩ | ⟨g, cap, cur, rfl, hb, hg, hn, hm, hs, ht⟩
 ·have hx : xs = [] := List.eq_nil_of_length_eq_zero h0
  subst hx
  refine (Tryz.slices_Sort_int_none none 0 w).mono ?_
  rintro e w' ⟨rfl, rfl⟩
  exact ⟨rfl, by simpa using ho, grown_refl _ _⟩
 ·rw [Nat.mul_one] at ht
  refine (Tryz.slices_Sort_int g 0 cap xs w (holds_of_blockI hg ht) (Array.getElem?_eq_some_iff.1 hg).1 (by omega)).mono ?_
  rintro e w' ⟨rfl, n, os, rfl⟩
  exact ⟨rfl, ownsRow_sortedI (List.length_mergeSort xs) hb hg hn hm hs, grownBy_sortedI _⟩

theorem grownBy_put {α : Type} [Inhabited α] {enc : α → Value} {w : World} {g q : Nat} (d : Array α) : w.grownBy (Go.Sort.putRow enc (Go.Sort.ahead w q) g 0 d) (some g) := by
 refine ⟨rfl, rfl, rfl, by simp [Go.Sort.putRow, Go.Sort.mapBlock, Go.Sort.ahead], fun k hk hne => ?_⟩
 have : g ≠ k := fun e => hne (by rw [e])
 simp [Go.Sort.putRow, Go.Sort.mapBlock, Go.Sort.ahead, Array.getElem?_modify, this]

theorem Compact_own (base : Nat) (v : Value) (xs : List Int) (w : World) (ho : w.ownsRow base 2 1 v xs.length (xs.map (Value.int .i64))) :
  Calls Tryz.prog 145 #[v] w fun e w' => ∃ v', e = .returned v' ∧ w'.ownsRow base 2 1 v' (Lib.compact xs).length ((Lib.compact xs).map (Value.int .i64)) ∧ w.grownBy w' v.ownBlock := by
 have hle := Lib.compact_length_le xs
 rcases ho.2 with ⟨rfl, h0⟩ | ⟨g, cap, cur, rfl, hb, hg, hn, hm, hs, ht⟩
 ·have hx : xs = [] := List.eq_nil_of_length_eq_zero h0
  subst hx
  refine (Tryz.slices_Compact_int_empty none 0 w).mono ?_
  rintro e w' ⟨rfl, rfl⟩
  exact ⟨_, rfl, by simpa [Lib.compact, Lib.compactUpTo] using ho, grown_refl _ _⟩
 ·rw [Nat.mul_one] at ht
  have hm2 : cap ≤ 9223372036854775807 := by simpa [maxLen] using hm
  refine (Tryz.slices_Compact_int g 0 cap xs w (holds_of_blockI hg ht) (by omega) hn).mono ?_
  rintro e w' ⟨rfl, q, rfl⟩
  have hc := Lib.ownsRow_putRow (q := q) (k := (Lib.compact xs).length) (ys := Lib.compact xs ++ List.replicate (xs.length - (Lib.compact xs).length) 0) ho (by simp; omega) hle
  rw [List.take_left] at hc
  exact ⟨_, rfl, hc, grownBy_put _⟩

end Go.Proofs.YtbjbjbnbapeajaaGreatDoor

namespace Go.Proofs.YtbjbjbnbapeajaaGreatDoor
open Go Go.RowKit

theorem info_int64f : (Tryz.prog.info? 2).map (fun i => (i.zero, i.size, i.bytes)) = some (some (.int .i64 0), 1, 8) := by kernel_rfl

/-- An edge with the label from one of the states. -/
def hitS (p : Lts) (cur : List Int) (l : ByteArray) (e : Edge) : Bool := (cur.any fun y => y == e.src) && ((labAt p e).toList == l.toList)
def followR (p : Lts) (cur : List Int) (l : ByteArray) : List Int := (p.edges.filter (hitS p cur l)).map Edge.dst
def followL (p : Lts) (cur : List Int) (l : ByteArray) : List Int := Lib.compact ((followR p cur l).mergeSort fun x y => decide (x ≤ y))
theorem hitS_take {p : Lts} {cur : List Int} {l : ByteArray} {k : Nat} (h : k < p.edges.length) (g : hitS p cur l p.edges[k] = true) :
  ((p.edges.take (k + 1)).filter (hitS p cur l)).map Edge.dst = ((p.edges.take k).filter (hitS p cur l)).map Edge.dst ++ [p.edges[k].dst] := by
 rw [List.take_succ_eq_append_getElem h, List.filter_append, List.map_append]
 simp [g]
theorem missS_take {p : Lts} {cur : List Int} {l : ByteArray} {k : Nat} (h : k < p.edges.length) (g : hitS p cur l p.edges[k] = false) :
  ((p.edges.take (k + 1)).filter (hitS p cur l)).map Edge.dst = ((p.edges.take k).filter (hitS p cur l)).map Edge.dst := by
 rw [List.take_succ_eq_append_getElem h, List.filter_append, List.map_append]
 simp [g]

set_option maxRecDepth 100000 in
set_option maxHeartbeats 2000000 in
theorem follow_any (lo lo2 : Nat) (p : Lts) (lv ev sv : Value) (cur : List Int) (l : ByteArray) (w : World) (hvp : Valid p) (hl : SliceK 1 encS lo w lv p.labels) (he : SliceK 3 encE lo w ev p.edges) (hs : SliceK 1 encI lo2 w sv cur) :
  Calls Tryz.prog 105 #[.agg #[.int .i64 p.states, .int .i64 p.initial, lv, ev], sv, .string l] w (MadeNums (followL p cur l) w) := by
 have HS := Lib.hid hs
 have HE := Lib.hid hvp.edge
 have hmost := hvp.most
 clear hs hvp
 obtain ⟨al, cl, rfl, hln, hlc, hlr⟩ := hl
 obtain ⟨ae, ce, rfl, hen, hec, hrow⟩ := he
 have HLR := Lib.hid hlr
 have HER := Lib.hid hrow
 clear hlr hrow
 obtain ⟨i0, hi, hz0, hz1, hz2⟩ := info_parts info_int64f
 have HB0 : Hid (Below w.heap.size w (w.alloc (.cells #[.int .i64 p.states, .int .i64 p.initial, .slice al p.labels.length cl, .slice ae p.edges.length ce] 29))) := (Below.refl _ _).alloc (Nat.le_refl _) _
 have HQ2 : Hid ((w.alloc (.cells #[.int .i64 p.states, .int .i64 p.initial, .slice al p.labels.length cl, .slice ae p.edges.length ce] 29)).cell? ⟨w.heap.size, 2, none⟩ = some (.slice al p.labels.length cl)) := by unfold Hid; simp
 obtain ⟨wB, hwB⟩ : ∃ wB, wB = w.alloc (.cells #[.int .i64 p.states, .int .i64 p.initial, .slice al p.labels.length cl, .slice ae p.edges.length ce] 29) := ⟨_, rfl⟩
 have hwz : wB.heap.size = w.heap.size + 1 := by rw [hwB]; simp
 rw [← hwB] at HB0 HQ2
 have HWB := Lib.hid hwB
 clear hwB
 go_enter Tryz.func105, Tryz.ntmps105
 go_wp2_with fail
 rw [← HWB.out]
 clear HWB
 go_loopw [7, 13] (fun v i wr => ∃ k : Nat, k ≤ p.edges.length ∧ i = .int .i64 k ∧ Below wB.heap.size wB wr ∧ wr.ownsRow wB.heap.size 2 1 v (((p.edges.take k).filter (hitS p cur l)).map Edge.dst).length ((((p.edges.take k).filter (hitS p cur l)).map Edge.dst).map (Value.int .i64))) (fun _ i _ => p.edges.length - (intOf i).toNat)
 case atStart => exact ⟨0, Nat.zero_le _, rfl, Below.refl _ _, World.ownsRow_nil _ _ _ _⟩
 case round =>
  obtain ⟨k, hk, rfl, hbl, ho⟩ := hrel
  have HBL := Lib.hid hbl
  have HO := Lib.hid ho
  have hsz := hbl.size
  have q2 := keeps hbl (by omega) HQ2.out
  have hwr : w.heap.size < wr.heap.size := by omega
  have hfl : (((p.edges.take k).filter (hitS p cur l)).map Edge.dst).length ≤ k := by rw [List.length_map]; exact Nat.le_trans (List.length_filter_le _ _) (List.length_take_le _ _)
  clear hbl ho
  by_cases hlt : k < p.edges.length
  ·have hbr := HB0.out.trans (HBL.out.mono HB0.out.size)
   obtain ⟨be, oe, rfl, -, hbe, e1, e2, e3⟩ := (HER.out.below hbr).edge hlt
   have hek := HE.out k hlt
   obtain ⟨hll, hla⟩ := labAt_idx hek
   obtain ⟨bl, ol, rfl, -, hbl2, c1⟩ := (HLR.out.below hbr).one hll
   simp only [encS, List.getElem?_cons_zero] at c1
   rw [← hla] at c1
   have hl0 : ((p.edges[k].lab.toNat : Nat) : Int) = p.edges[k].lab := by have := hek.l0; omega
   have hl1 := hek.l1
   have hl2 := hek.l0
   obtain ⟨e, hee⟩ : ∃ e, e = p.edges[k] := ⟨_, rfl⟩
   obtain ⟨m, hm⟩ : ∃ m, m = p.edges[k].lab.toNat := ⟨_, rfl⟩
   rw [← hm] at c1 hl0 hll
   rw [← hee] at e1 e2 e3 c1 hl0 hl1 hl2
   have HEE := Lib.hid hee
   rw [← hl0] at e2
   have HBA : Hid (Below wB.heap.size wB (wr.alloc (.cells #[.int .i64 e.src, .int .i64 m, .int .i64 e.dst] 73))) := HBL.out.alloc hsz _
   have HSA : Hid (SliceK 1 encI lo2 (wr.alloc (.cells #[.int .i64 e.src, .int .i64 m, .int .i64 e.dst] 73)) sv cur) := HS.out.below (hbr.alloc hbr.size _)
   have HOA : Hid ((wr.alloc (.cells #[.int .i64 e.src, .int .i64 m, .int .i64 e.dst] 73)).ownsRow wB.heap.size 2 1 u7 (((p.edges.take k).filter (hitS p cur l)).map Edge.dst).length ((((p.edges.take k).filter (hitS p cur l)).map Edge.dst).map (Value.int .i64))) := HO.out.alloc _
   have hml : (m : Int) < (p.labels.length : Int) := by omega
   clear hl0 hl1 hl2 hek hbr hla
   cases g1 : ((labAt p e).toList == l.toList)
   ·have HG : Hid (hitS p cur l p.edges[k] = false) := by unfold Hid hitS; rw [← hee, g1, Bool.and_false]
    clear hee hm
    go_wp2_with fail
    go_roundw
    case rel => exact ⟨k + 1, by omega, by go_num, HBA.out, by rw [missS_take hlt HG.out]; exact HOA.out⟩
    case measure => simp [intOf]; omega
   ·cases g2 : (cur.any fun y => y == e.src)
    ·have HG : Hid (hitS p cur l p.edges[k] = false) := by
      unfold Hid hitS
      rw [← hee, g2, Bool.false_and]
     have HG2 := Lib.hid g2
     clear hee hm g2
     go_wp2_with fail
     refine (Contains_ints lo2 _ _ cur _ HSA.out).mono ?_
     rintro e' w' ⟨rfl, rfl⟩
     rw [HG2.out]
     go_wp2_with fail
     go_roundw
     case rel => exact ⟨k + 1, by omega, by go_num, HBA.out, by rw [missS_take hlt HG.out]; exact HOA.out⟩
     case measure => simp [intOf]; omega
    ·have HG : Hid (hitS p cur l p.edges[k] = true) := by
      unfold Hid hitS
      rw [← hee, g2, g1]; rfl
     have HG2 := Lib.hid g2
     have HD : Hid (p.edges[k].dst = e.dst) := by unfold Hid; rw [← hee]
     clear hee hm g2
     have hfz := hfl
     generalize hfs : ((p.edges.take k).filter (hitS p cur l)).map Edge.dst = fs at *
     have HFS := Lib.hid hfs
     clear hfs
     go_wp2_with fail
     refine (Contains_ints lo2 _ _ cur _ HSA.out).mono ?_
     rintro e' w' ⟨rfl, rfl⟩
     rw [HG2.out]
     go_wp2_with (at_builtin; refine wpList_append_own _ rfl _ _ 68 rfl wB.heap.size 2 i0 (.int .i64 0) 1 8 Tryz.underlying68 hi hz0 hz1 hz2 rfl (by decide) _ _ _ rfl (HOA.out.alloc _) ⟨wr.heap.size + 1, 0, none⟩ 1 1 [.int .i64 e.dst] rfl rfl ?c1 ?c2 ?c3 ?c4 ?c5 ?_)
     case c1 => have := cell_one_new (wr.alloc (.cells #[.int .i64 e.src, .int .i64 m, .int .i64 e.dst] 73)) (.int .i64 e.dst) 2; simpa using this
     case c2 => intro u hu; simp at hu; subst hu; rfl
     case c3 => simp [maxLen]; omega
     case c4 => omega
     case c5 => simp; omega
     intro v' w3 ho1 hg1 _
     have HO2 : Hid (w3.ownsRow wB.heap.size 2 1 v' (fs ++ [e.dst]).length ((fs ++ [e.dst]).map (Value.int .i64))) := by
      unfold Hid
      rw [List.length_append, List.map_append, hwz]
      exact ho1
     have HB2 : Hid (Below wB.heap.size wB w3) := (HBA.out.alloc (by simp; omega) _).grown hg1 (by simp; omega) (fun b e => (HO.out.lt b e).1)
     clear ho1 hg1
     go_wp2_with fail
     go_roundw
     case rel => exact ⟨k + 1, by omega, by go_num, HB2.out, by rw [hitS_take hlt HG.out, HFS.out, HD.out]; exact HO2.out⟩
     case measure => simp [intOf]; omega
  ·obtain rfl : k = p.edges.length := by omega
   have HO2 : Hid (wr.ownsRow wB.heap.size 2 1 u7 (followR p cur l).length ((followR p cur l).map (Value.int .i64))) := by
    have := HO.out
    rw [List.take_length] at this
    exact this
   rw [List.take_length] at hfl
   have hfl2 : (followR p cur l).length ≤ 1048576 := by unfold followR; omega
   have HS1 := Lib.hid (Sort_own wB.heap.size u7 _ wr HO2.out hfl2)
   clear HO HER HLR q2 hfl hfl2
   go_wp2_with fail
   refine Calls.mono HS1.out ?_
   rintro e' w1 ⟨rfl, ho1, hg1⟩
   have HB1 := Lib.hid (HBL.out.grown hg1 (by exact hsz) (fun b e => (HO2.out.lt b e).1))
   have HS2 := Lib.hid (Compact_own wB.heap.size u7 ((followR p cur l).mergeSort fun x y => decide (x ≤ y)) w1 (by rw [List.length_mergeSort]; exact ho1))
   have HLT := Lib.hid (fun b e => (ho1.lt b e).1)
   clear ho1 hg1 HS1
   go_wp2_with fail
   refine Calls.mono HS2.out ?_
   rintro e' w2 ⟨v2, rfl, ho2, hg2⟩
   have HB2 := Lib.hid (HB1.out.grown hg2 HB1.out.size HLT.out)
   have HO3 := Lib.hid ho2
   clear ho2 hg2 HS2
   go_wp2_with fail
   go_ret
   exact ⟨_, rfl, HB0.out.trans (HB2.out.mono HB0.out.size), own_lower HO3.out HB0.out.size⟩

end Go.Proofs.YtbjbjbnbapeajaaGreatDoor

namespace Go.Proofs.YtbjbjbnbapeajaaGreatDoor
open Go Go.RowKit

theorem mem_followR {p : Lts} {cur : List Int} {l : ByteArray} {x : Int} : x ∈ followR p cur l ↔ ∃ e ∈ p.edges, e.src ∈ cur ∧ (labAt p e).toList = l.toList ∧ e.dst = x := by
 unfold followR hitS
 rw [List.mem_map]
 constructor
 ·rintro ⟨e, he, rfl⟩
  rw [List.mem_filter, Bool.and_eq_true, List.any_eq_true] at he
  obtain ⟨h1, ⟨y, hy, h2⟩, h3⟩ := he
  rw [beq_iff_eq] at h2 h3
  subst h2
  exact ⟨e, h1, hy, h3, rfl⟩
 ·rintro ⟨e, h1, h2, h3, rfl⟩
  refine ⟨e, ?_, rfl⟩
  rw [List.mem_filter, Bool.and_eq_true, List.any_eq_true]
  exact ⟨h1, ⟨e.src, h2, by rw [beq_iff_eq]⟩, by rw [beq_iff_eq]; exact h3⟩
end Go.Proofs.YtbjbjbnbapeajaaGreatDoor

namespace Go.Proofs.YtbjbjbnbapeajaaGreatDoor
open Go Go.RowKit

/-- An edge to v by a label is answered from y. -/
def strongB (b : Lts) (N : PairSet) (y : Int) (l : ByteArray) (v : Int) : Bool := (followL b [y] l).any fun w => N v w
theorem strongB_eq (b : Lts) (N : PairSet) (y : Int) (l : ByteArray) (v : Int) : strongB b N y l v = b.edges.any fun f => f.src == y && ((labAt b f).toList == l.toList) && N v f.dst := by
 unfold strongB
 rw [Bool.eq_iff_iff, List.any_eq_true, List.any_eq_true]
 have hm := (sort_compact_is (followR b [y] l)).mem
 constructor
 ·rintro ⟨w, hw, hn⟩
  obtain ⟨f, hf, h1, h2, h3⟩ := mem_followR.1 ((hm w).1 hw)
  refine ⟨f, hf, ?_⟩
  rw [List.mem_singleton] at h1
  rw [h1, h2, h3, hn]
  simp
 ·rintro ⟨f, hf, hb⟩
  rw [Bool.and_eq_true, Bool.and_eq_true] at hb
  obtain ⟨⟨h1, h2⟩, h3⟩ := hb
  refine ⟨f.dst, (hm _).2 (mem_followR.2 ⟨f, hf, ?_, ?_, rfl⟩), h3⟩
  ·rw [List.mem_singleton]; exact eq_of_beq h1
  ·exact eq_of_beq h2
theorem answered_eq (a b : Lts) (N : PairSet) (x y : Int) : ((outOf a x).all fun e => strongB b N y (labAt a e) e.dst) = ansG a b N x y := by
 unfold ansG outOf
 rw [List.all_filter]
 congr 1
 funext e
 rw [strongB_eq]

end Go.Proofs.YtbjbjbnbapeajaaGreatDoor

namespace Go.Proofs.YtbjbjbnbapeajaaGreatDoor
open Go Go.RowKit

def setOf (ps : List (Int × Int)) : PairSet := fun x y => decide ((x, y) ∈ ps)
theorem setOf_iff {ps : List (Int × Int)} {x y : Int} : setOf ps x y = true ↔ (x, y) ∈ ps := by unfold setOf; rw [decide_eq_true_eq]
theorem nodup_sub_len {α : Type} [BEq α] [LawfulBEq α] : ∀ {a b : List α}, a.Nodup → (∀ x ∈ a, x ∈ b) → a.length ≤ b.length
 | [], b, _, _ => Nat.zero_le _
 | x :: a, b, hd, hs => by
  rw [List.nodup_cons] at hd
  have h1 : x ∈ b := hs x (by simp)
  have h2 := nodup_sub_len (a := a) (b := b.erase x) hd.2 (fun y hy => by
   have : y ≠ x := fun e => hd.1 (e ▸ hy)
   exact (List.mem_erase_of_ne this).2 (hs y (by simp [hy])))
  have h3 := List.length_erase_of_mem h1
  have h4 := List.length_pos_of_mem h1
  simp only [List.length_cons]
  omega
/-- All pairs with a first number below x, .. and the second ones of a row. -/
def prow (x y : Nat) : List (Int × Int) := (List.range y).map fun (j : Nat) => ((x : Int), (j : Int))
def pall (P x : Nat) : List (Int × Int) := (List.range x).flatMap fun i => prow i P
theorem prow_succ (x y : Nat) : prow x (y + 1) = prow x y ++ [((x : Int), (y : Int))] := by unfold prow; rw [List.range_succ, List.map_append]; rfl
theorem pall_succ (P x : Nat) : pall P (x + 1) = pall P x ++ prow x P := by unfold pall; rw [List.range_succ, List.flatMap_append]; simp
theorem mem_prow {x y : Nat} {q : Int × Int} : q ∈ prow x y ↔ q.1 = x ∧ 0 ≤ q.2 ∧ q.2 < y := by
 unfold prow
 rw [List.mem_map]
 constructor
 ·rintro ⟨j, hj, rfl⟩
  have := List.mem_range.1 hj
  exact ⟨rfl, by show (0 : Int) ≤ (j : Int); omega, by show (j : Int) < y; omega⟩
 ·rintro ⟨h1, h2, h3⟩
  refine ⟨q.2.toNat, List.mem_range.2 (by omega), ?_⟩
  obtain ⟨u, v⟩ := q
  simp only at h1 h2 h3
  rw [h1, show ((v.toNat : Nat) : Int) = v from by omega]
theorem mem_pall {P x : Nat} {q : Int × Int} : q ∈ pall P x ↔ (0 ≤ q.1 ∧ q.1 < x) ∧ 0 ≤ q.2 ∧ q.2 < P := by
 unfold pall
 rw [List.mem_flatMap]
 constructor
 ·rintro ⟨i, hi, hq⟩
  have := List.mem_range.1 hi
  rw [mem_prow] at hq
  omega
 ·rintro ⟨⟨h1, h2⟩, h3⟩
  exact ⟨q.1.toNat, List.mem_range.2 (by omega), mem_prow.2 ⟨by omega, h3⟩⟩
theorem pall_len (P x : Nat) : (pall P x).length = x * P := by
 induction x with
 | zero => simp [pall]
 | succ x ih => rw [pall_succ, List.length_append, ih]; unfold prow; rw [List.length_map, List.length_range, Nat.succ_mul]
theorem setOf_all {a b : Lts} {S P : Nat} (hS : (S : Int) = a.states) (hP : (P : Int) = b.states) : setOf (pall P S) = allG a b := by
 funext x y
 rw [Bool.eq_iff_iff, setOf_iff, mem_pall, allG_iff, hS, hP]

end Go.Proofs.YtbjbjbnbapeajaaGreatDoor

namespace Go.Proofs.YtbjbjbnbapeajaaGreatDoor
open Go Go.RowKit Go.ChangeMaps Go.MapKept
open Go.Maps (Keyed)

theorem nodup_get {α : Type} {l : List α} (hd : l.Nodup) {i j : Nat} (hi : i < l.length) (hj : j < l.length) (h : l[i] = l[j]) : i = j := by
 have hp := List.pairwise_iff_getElem.1 hd
 rcases Nat.lt_trichotomy i j with h1 | h1 | h1
 ·exact absurd h (hp i j hi hj h1)
 ·exact h1
 ·exact absurd h.symm (hp j i hj hi h1)

section
variable {P : Program} {k t e : TypeId} {q : IntKind} {w : World} {b : Nat} {ks : List Value}

end
end Go.Proofs.YtbjbjbnbapeajaaGreatDoor

namespace Go.Proofs.YtbjbjbnbapeajaaGreatDoor
open Go Go.RowKit

/-- A test of pairs, within a set of pairs. -/
abbrev PairAsk := PairSet → Int → Int → Bool
def MonoA (A : PairAsk) : Prop := ∀ N M : PairSet, (∀ x y, N x y = true → M x y = true) → ∀ x y, A N x y = true → A M x y = true
structure GreatA (A : PairAsk) (st N : PairSet) : Prop where
 low : ∀ x y, N x y = true → st x y = true
 ans : ∀ x y, N x y = true → A N x y = true
 all : ∀ M : PairSet, (∀ x y, M x y = true → st x y = true) → (∀ x y, M x y = true → A M x y = true) → ∀ x y, M x y = true → N x y = true
theorem GreatA.unique {A : PairAsk} {st N M : PairSet} (h : GreatA A st N) (k : GreatA A st M) : N = M := by
 funext x y
 cases e : N x y with
 | true => exact (k.all N h.low h.ans x y e).symm
 | false =>
  cases e2 : M x y with
  | false => rfl
  | true => rw [h.all M k.low k.ans x y e2] at e; cases e
theorem GreatA.great {a b : Lts} {st N : PairSet} (h : GreatA (ansG a b) st N) : Great a b st N := ⟨⟨h.low, h.ans⟩, fun M hM => h.all M hM.low hM.ans⟩
theorem ansG_monoA (a b : Lts) : MonoA (ansG a b) := fun _ _ h _ _ hn => ansG_mono h hn
structure AboveA (A : PairAsk) (st N : PairSet) : Prop where
 low : ∀ x y, N x y = true → st x y = true
 all : ∀ M : PairSet, (∀ x y, M x y = true → st x y = true) → (∀ x y, M x y = true → A M x y = true) → ∀ x y, M x y = true → N x y = true
theorem AboveA.start (A : PairAsk) (st : PairSet) : AboveA A st st := ⟨fun _ _ h => h, fun _ hl _ x y h => hl x y h⟩

/-- What a round keeps. -/
def KeptA (A : PairAsk) (ps qs : List (Int × Int)) : Prop := ∀ q, q ∈ qs ↔ q ∈ ps ∧ A (setOf ps) q.1 q.2 = true
theorem KeptA.next {A : PairAsk} (hA : MonoA A) {st : PairSet} {ps qs : List (Int × Int)} (h : KeptA A ps qs) (ha : AboveA A st (setOf ps)) : AboveA A st (setOf qs) := by
 refine ⟨fun x y hn => ?_, fun M hl hm x y hxy => ?_⟩
 ·exact ha.low x y (setOf_iff.2 ((h (x, y)).1 (setOf_iff.1 hn)).1)
 ·have h1 := ha.all M hl hm
  exact setOf_iff.2 ((h (x, y)).2 ⟨setOf_iff.1 (h1 x y hxy), hA M _ h1 x y (hm x y hxy)⟩)
theorem KeptA.len {A : PairAsk} {ps qs : List (Int × Int)} (h : KeptA A ps qs) (hq : qs.Nodup) : qs.length ≤ ps.length := nodup_sub_len hq (fun x hx => ((h x).1 hx).1)
theorem KeptA.done {A : PairAsk} {st : PairSet} {ps qs : List (Int × Int)} (h : KeptA A ps qs) (hq : qs.Nodup) (ha : AboveA A st (setOf ps)) (hl : qs.length = ps.length) : GreatA A st (setOf ps) := by
 refine ⟨ha.low, fun x y hn => ?_, ha.all⟩
 have hm := setOf_iff.1 hn
 apply Classical.byContradiction
 intro hn2
 have hnq : (x, y) ∉ qs := fun hc => hn2 ((h (x, y)).1 hc).2
 have h1 := nodup_sub_len (a := (x, y) :: qs) (b := ps) (by rw [List.nodup_cons]; exact ⟨hnq, hq⟩) (fun z hz => by
  rcases List.mem_cons.1 hz with rfl | hz
  ·exact hm
  ·exact ((h z).1 hz).1)
 simp only [List.length_cons] at h1
 omega

/-- In the midst of a round: of the pairs handed out, those that pass the test are kept. -/
structure KeptSo (T : Int × Int → Bool) (ps qs : List (Int × Int)) (seen : Array Nat) : Prop where
 nodup : seen.toList.Nodup
 less : ∀ i ∈ seen, i < ps.length
 kept : ∀ q, q ∈ qs ↔ (∃ i, ∃ h : i < ps.length, i ∈ seen ∧ ps[i] = q) ∧ T q = true
theorem KeptSo.start (T : Int × Int → Bool) (ps : List (Int × Int)) : KeptSo T ps [] #[] := ⟨by simp, fun i h => by simp at h, fun q => by simp⟩
theorem KeptSo.size {T : Int × Int → Bool} {ps qs : List (Int × Int)} {seen : Array Nat} (h : KeptSo T ps qs seen) : seen.size ≤ ps.length := by
 have := nodup_sub_len (a := seen.toList) (b := List.range ps.length) h.nodup (fun i hi => List.mem_range.2 (h.less i (by simpa using hi)))
 simpa using this
theorem KeptSo.fresh {T : Int × Int → Bool} {ps qs : List (Int × Int)} {seen : Array Nat} (h : KeptSo T ps qs seen) (hd : ps.Nodup) {i : Nat} (hi : i < ps.length) (hn : i ∉ seen) : ps[i] ∉ qs := by
 intro hc
 obtain ⟨⟨j, hj, hjs, e⟩, -⟩ := (h.kept _).1 hc
 have := nodup_get hd hj hi e
 subst this
 exact hn hjs
theorem KeptSo.seenPush {T : Int × Int → Bool} {ps qs : List (Int × Int)} {seen : Array Nat} (h : KeptSo T ps qs seen) {i : Nat} (hi : i < ps.length) (hn : i ∉ seen) : (seen.push i).toList.Nodup ∧ ∀ j ∈ seen.push i, j < ps.length := by
 constructor
 ·rw [Array.toList_push, List.nodup_append]
  refine ⟨h.nodup, by simp, ?_⟩
  intro a ha b hb e
  rw [List.mem_singleton] at hb
  subst hb
  subst e
  exact hn (by simpa using ha)
 ·intro j hj
  rw [Array.mem_push] at hj
  rcases hj with hj | rfl
  ·exact h.less j hj
  ·exact hi
theorem KeptSo.yes {T : Int × Int → Bool} {ps qs : List (Int × Int)} {seen : Array Nat} (h : KeptSo T ps qs seen) {i : Nat} (hi : i < ps.length) (hn : i ∉ seen) (hT : T ps[i] = true) : KeptSo T ps (qs ++ [ps[i]]) (seen.push i) := by
 obtain ⟨h1, h2⟩ := h.seenPush hi hn
 refine ⟨h1, h2, fun q => ?_⟩
 rw [List.mem_append, List.mem_singleton, h.kept q]
 constructor
 ·rintro (⟨⟨j, hj, hjs, e⟩, ht⟩ | rfl)
  ·exact ⟨⟨j, hj, Array.mem_push_of_mem _ hjs, e⟩, ht⟩
  ·exact ⟨⟨i, hi, Array.mem_push_self, rfl⟩, hT⟩
 ·rintro ⟨⟨j, hj, hjs, e⟩, ht⟩
  rw [Array.mem_push] at hjs
  rcases hjs with hjs | rfl
  ·exact .inl ⟨⟨j, hj, hjs, e⟩, ht⟩
  ·exact .inr e.symm
theorem KeptSo.no {T : Int × Int → Bool} {ps qs : List (Int × Int)} {seen : Array Nat} (h : KeptSo T ps qs seen) {i : Nat} (hi : i < ps.length) (hn : i ∉ seen) (hT : T ps[i] = false) : KeptSo T ps qs (seen.push i) := by
 obtain ⟨h1, h2⟩ := h.seenPush hi hn
 refine ⟨h1, h2, fun q => ?_⟩
 rw [h.kept q]
 constructor
 ·rintro ⟨⟨j, hj, hjs, e⟩, ht⟩
  exact ⟨⟨j, hj, Array.mem_push_of_mem _ hjs, e⟩, ht⟩
 ·rintro ⟨⟨j, hj, hjs, e⟩, ht⟩
  rw [Array.mem_push] at hjs
  rcases hjs with hjs | rfl
  ·exact ⟨⟨j, hj, hjs, e⟩, ht⟩
  ·rw [← e, hT] at ht; cases ht
theorem KeptSo.all {T : Int × Int → Bool} {ps qs : List (Int × Int)} {seen : Array Nat} (h : KeptSo T ps qs seen) (hs : ∀ i, i < ps.length → i ∈ seen) : ∀ q, q ∈ qs ↔ q ∈ ps ∧ T q = true := by
 intro q
 rw [h.kept q]
 constructor
 ·rintro ⟨⟨j, hj, -, e⟩, ht⟩
  exact ⟨e ▸ List.getElem_mem hj, ht⟩
 ·rintro ⟨hm, ht⟩
  obtain ⟨j, hj, e⟩ := List.mem_iff_getElem.1 hm
  exact ⟨⟨j, hj, hs j hj, e⟩, ht⟩
theorem KeptSo.yesAt {T : Int × Int → Bool} {ps qs : List (Int × Int)} {seen : Array Nat} (h : KeptSo T ps qs seen) {i : Nat} (hi : i < ps.length) (hn : i ∉ seen) {q : Int × Int} (hq : ps[i] = q) (hT : T q = true) : KeptSo T ps (qs ++ [q]) (seen.push i) := by
 have := h.yes hi hn (by rw [hq]; exact hT)
 rwa [hq] at this
theorem KeptSo.noAt {T : Int × Int → Bool} {ps qs : List (Int × Int)} {seen : Array Nat} (h : KeptSo T ps qs seen) {i : Nat} (hi : i < ps.length) (hn : i ∉ seen) {q : Int × Int} (hq : ps[i] = q) (hT : T q = false) : KeptSo T ps qs (seen.push i) := h.no hi hn (by rw [hq]; exact hT)
theorem KeptSo.freshAt {T : Int × Int → Bool} {ps qs : List (Int × Int)} {seen : Array Nat} (h : KeptSo T ps qs seen) (hd : ps.Nodup) {i : Nat} (hi : i < ps.length) (hn : i ∉ seen) {q : Int × Int} (hq : ps[i] = q) : q ∉ qs := by
 rw [← hq]
 exact h.fresh hd hi hn
theorem KeptSo.few {T : Int × Int → Bool} {ps qs : List (Int × Int)} {seen : Array Nat} (h : KeptSo T ps qs seen) (hq : qs.Nodup) : qs.length ≤ ps.length := nodup_sub_len hq (fun q hm => by
 obtain ⟨⟨i, hi, -, e⟩, -⟩ := (h.kept q).1 hm
 exact e ▸ List.getElem_mem hi)
theorem KeptSo.push_size {T : Int × Int → Bool} {ps qs : List (Int × Int)} {seen : Array Nat} {i : Nat} (h : KeptSo T ps qs (seen.push i)) : seen.size + 1 ≤ ps.length := by
 have := h.size
 simpa using this

end Go.Proofs.YtbjbjbnbapeajaaGreatDoor

namespace Go.Proofs.YtbjbjbnbapeajaaGreatDoor
open Go Go.RowKit Go.ChangeMaps Go.MapKept
open Go.Maps (Keyed)

def entG (ks : List Value) : Array MapEntry := (ks.mapIdx fun i k => (⟨k, .bool true, i⟩ : MapEntry)).toArray
/-- The block of a map that holds the keys, each with true. -/
def SetMap (w : World) (b : Nat) (ks : List Value) : Prop := w.heap[b]? = some (.map (entG ks) ks.length)
theorem SetMap.made (w : World) : SetMap (w.alloc (.map #[] 0)) w.heap.size [] := (MapKept.heap_alloc w _).1
theorem SetMap.lt {w : World} {b : Nat} {ks : List Value} (h : SetMap w b ks) : b < w.heap.size := (Array.getElem?_eq_some_iff.1 h).1
theorem SetMap.kept {w w' : World} {b : Nat} {ks : List Value} {row : Option Nat} (h : SetMap w b ks) (hg : w.grownBy w' row) (hne : some b ≠ row) : SetMap w' b ks := (hg.block b h.lt hne).trans h
theorem SetMap.below {w w' : World} {b : Nat} {ks : List Value} (h : SetMap w b ks) (hb : Below w.heap.size w w') : SetMap w' b ks := (hb.block b h.lt).trans h
theorem entG_key {ks : List Value} {e : MapEntry} (h : e ∈ (entG ks).toList) : ∃ i, ∃ hi : i < ks.length, e = ⟨ks[i], .bool true, i⟩ := by
 unfold entG at h
 simp only [List.mem_mapIdx] at h
 obtain ⟨i, hi, rfl⟩ := h
 exact ⟨i, hi, rfl⟩
theorem entG_mem {ks : List Value} {e : MapEntry} (h : e ∈ (entG ks).toList) : e.key ∈ ks := by
 obtain ⟨i, hi, rfl⟩ := entG_key h
 exact List.getElem_mem hi
theorem entG_size (ks : List Value) : (entG ks).size = ks.length := by unfold entG; simp
theorem entG_push (ks : List Value) (key : Value) : entG (ks ++ [key]) = (entG ks).push ⟨key, .bool true, ks.length⟩ := by
 unfold entG
 rw [List.mapIdx_append]
 simp

section
variable {P : Program} {k t e : TypeId} {w : World} {b : Nat} {ks : List Value}

theorem SetMap.found (h : SetMap w b ks) (K : Keyed P k) (ht : P.underlying t = some (.map k e)) (hks : ∀ v ∈ ks, ∃ l, keyOf P k v = some l) {key : Value} (hk : key ∈ ks) :
  (Instr.lookup t (.map (some b)) key false).run P w = .ok (.bool true) w := by
 obtain ⟨kl, hkey⟩ := hks _ hk
 rcases K.find w hkey (entG ks).toList (fun x hx => hks _ (entG_mem hx)) with ⟨_, h2⟩ | ⟨j, e0, h1, h2, h3⟩
 ·exfalso
  obtain ⟨i, hi, rfl⟩ := List.mem_iff_getElem.1 hk
  refine h2 ⟨ks[i], .bool true, i⟩ ?_ rfl
  unfold entG
  simp only [List.mem_mapIdx]
  exact ⟨i, hi, rfl⟩
 ·obtain ⟨i, hi, rfl⟩ := entG_key (List.mem_of_getElem? h2)
  have hb : w.heap[b]? = some (.map (entG ks) ks.length) := h
  simp [Instr.lookup, run_underlying ht, MapKept.run_getObj_map hb, K.check w _ hkey, h1, Result.andThen]

theorem SetMap.missing (h : SetMap w b ks) (K : Keyed P k) (ht : P.underlying t = some (.map k e)) (hks : ∀ v ∈ ks, ∃ l, keyOf P k v = some l) (hz : (zeroValue e).run P w = .ok (.bool false) w) {key : Value} {kl : Lit} (hkey : keyOf P k key = some kl) (hn : key ∉ ks) :
  (Instr.lookup t (.map (some b)) key false).run P w = .ok (.bool false) w := by
 rcases K.find w hkey (entG ks).toList (fun x hx => hks _ (entG_mem hx)) with ⟨h1, _⟩ | ⟨j, e0, _, h2, h3⟩
 ·have hb : w.heap[b]? = some (.map (entG ks) ks.length) := h
  simp [Instr.lookup, run_underlying ht, MapKept.run_getObj_map hb, K.check w _ hkey, h1, hz, Result.andThen]
 ·exact absurd (h3 ▸ entG_mem (List.mem_of_getElem? h2)) hn

theorem SetMap.store (h : SetMap w b ks) (K : Keyed P k) (ht : P.underlying t = some (.map k e)) (hks : ∀ v ∈ ks, ∃ l, keyOf P k v = some l) {key : Value} {kl : Lit} (hkey : keyOf P k key = some kl) (hn : key ∉ ks) (hroom : ks.length < maxLen) :
  ∃ w', (Instr.mapUpdate t (.map (some b)) key (.bool true)).run P w = .ok () w' ∧ SetMap w' b (ks ++ [key]) ∧ w.grownBy w' (some b) := by
 have hb : w.heap[b]? = some (.map (entG ks) ks.length) := h
 rcases K.find w hkey (entG ks).toList (fun x hx => hks _ (entG_mem hx)) with ⟨h1, _⟩ | ⟨j, e0, _, h2, h3⟩
 ·refine ⟨setBlock w b (.map ((entG ks).push ⟨key, .bool true, ks.length⟩) (ks.length + 1)), ?_, ?_, ?_⟩
  ·have hr : ks.length < 9223372036854775807 := hroom
   simp [Instr.mapUpdate, run_underlying ht, MapKept.run_getObj_map hb, K.check w false hkey, h1, MapKept.run_setObj_map _ hb, Result.andThen, setBlock]
  ·unfold SetMap
   rw [entG_push, List.length_append, List.length_singleton]
   exact heap_setBlock_same hb _
  ·exact ⟨rfl, rfl, rfl, by simp [setBlock], fun i _ hi => heap_setBlock_other hb _ (fun e => hi (by rw [e]))⟩
 ·exact absurd (h3 ▸ entG_mem (List.mem_of_getElem? h2)) hn

theorem setB_same {r : Nat} {o : Obj} (h : r < w.heap.size) : (setBlock w r o).heap[r]? = some o := by simp [setBlock, h]
theorem setB_other {r i : Nat} {o : Obj} (h : i ≠ r) : (setBlock w r o).heap[i]? = w.heap[i]? := by
 show (w.heap.setIfInBounds r o)[i]? = _
 rw [Array.getElem?_setIfInBounds_ne (Ne.symm h)]
/-- An iterator over a set: the places handed out so far. -/
def IterG (w : World) (r b n : Nat) (seen : Array Nat) : Prop := w.heap[r]? = some (.mapIter (some b) n seen n)
theorem SetMap.range (h : SetMap w b ks) (ht : P.underlying t = some (.map k e)) :
  (Instr.range t (.map (some b))).run P w = .ok (.pointer (some ⟨w.heap.size, 0, none⟩)) (w.alloc (.mapIter (some b) ks.length #[] ks.length)) := run_range_map w t k e b (entG ks) ks.length ht h
theorem IterG.start (w : World) (b n : Nat) : IterG (w.alloc (.mapIter (some b) n #[] n)) w.heap.size b n #[] := heap_alloc_new w _
theorem IterG.lt {r n : Nat} {seen : Array Nat} (h : IterG w r b n seen) : r < w.heap.size := (Array.getElem?_eq_some_iff.1 h).1
theorem IterG.below {w' : World} {r n : Nat} {seen : Array Nat} (h : IterG w r b n seen) (hb : Below w.heap.size w w') : IterG w' r b n seen := (hb.block r h.lt).trans h
theorem IterG.kept {w' : World} {r n : Nat} {seen : Array Nat} {row : Option Nat} (h : IterG w r b n seen) (hg : w.grownBy w' row) (hne : some r ≠ row) : IterG w' r b n seen := (hg.block r h.lt hne).trans h
theorem leftG {ks : List Value} {seen : Array Nat} {x : MapEntry} (h : x ∈ (leftOf (entG ks) seen).toList) : ∃ i, ∃ hi : i < ks.length, x = ⟨ks[i], .bool true, i⟩ ∧ i ∉ seen := by
 unfold leftOf at h
 simp only [Array.toList_filter, List.mem_filter] at h
 obtain ⟨h1, h2⟩ := h
 obtain ⟨i, hi, rfl⟩ := entG_key h1
 exact ⟨i, hi, rfl, by simpa using h2⟩
theorem left_none {ks : List Value} {seen : Array Nat} (h : (leftOf (entG ks) seen).size = 0) : ∀ i, i < ks.length → i ∈ seen := by
 intro i hi
 apply Classical.byContradiction
 intro hn
 have he : leftOf (entG ks) seen = #[] := Array.eq_empty_of_size_eq_zero h
 have hm : (⟨ks[i], .bool true, i⟩ : MapEntry) ∈ leftOf (entG ks) seen := by
  unfold leftOf
  rw [Array.mem_filter]
  refine ⟨?_, by simpa using hn⟩
  unfold entG
  simp only [List.mem_toArray, List.mem_mapIdx]
  exact ⟨i, hi, rfl⟩
 rw [he] at hm
 simp at hm
/-- The next key: none is left, or one that was not handed out. -/
theorem SetMap.next (h : SetMap w b ks) {r : Nat} {seen : Array Nat} (hi : IterG w r b ks.length seen) (ty : TypeId) :
  ((∀ i, i < ks.length → i ∈ seen) ∧ (Instr.next (.pointer (some ⟨r, 0, none⟩)) false ty).run P w = .ok (.tuple #[.bool false]) w) ∨
  ∃ i, ∃ hi : i < ks.length, i ∉ seen ∧ ∃ w' : World, (Instr.next (.pointer (some ⟨r, 0, none⟩)) false ty).run P w = .ok (.tuple #[.bool true, ks[i], .bool true]) w' ∧ IterG w' r b ks.length (seen.push i) ∧ w.grownBy w' (some r) := by
 have hold : ∀ x ∈ (entG ks).toList, x.born < ks.length := fun x hx => by
  obtain ⟨i, hi, rfl⟩ := entG_key hx
  exact hi
 rcases run_next_at (P := P) w ty r b ks.length ks.length seen (entG ks) ks.length hi h hold (Nat.le_refl _) with ⟨h1, h2⟩ | ⟨x, hx, w1, hw, h2⟩
 ·exact .inl ⟨left_none h1, h2⟩
 ·obtain ⟨i, hi', rfl, hn⟩ := leftG hx
  have hr1 : w1.heap[r]? = some (.mapIter (some b) ks.length seen ks.length) := by rcases hw with rfl | rfl <;> exact hi
  refine .inr ⟨i, hi', hn, _, h2, setB_same (Array.getElem?_eq_some_iff.1 hr1).1, ?_⟩
  rcases hw with rfl | rfl <;> exact ⟨rfl, rfl, rfl, (by show _ ≤ (Array.setIfInBounds _ _ _).size; rw [Array.size_setIfInBounds]; exact Nat.le_refl _), fun j _ hj => setB_other (fun e => hj (by rw [e]))⟩

end
end Go.Proofs.YtbjbjbnbapeajaaGreatDoor

namespace Go.Proofs.YtbjbjbnbapeajaaGreatDoor
open Go Go.RowKit Go.ChangeMaps Go.MapKept
open Go.Maps (Keyed)

section
variable {P : Program} {k t e : TypeId} {w : World} {b : Nat} {ks : List Value}

theorem entG_born (ks : List Value) : ((entG ks).toList.map (·.born)).Nodup := by
 have h : (entG ks).toList.map (·.born) = List.range ks.length := by
  unfold entG
  apply List.ext_getElem (by simp)
  intro i h1 h2
  simp
 rw [h]
 exact List.nodup_range
theorem SetMap.entry (h : SetMap w b ks) {r i : Nat} {seen : Array Nat} (hlt : i < ks.length) (hi : IterG w r b ks.length (seen.push i)) :
  (Instr.entry (.pointer (some ⟨r, 0, none⟩))).run P w = .ok (.tuple #[ks[i], .bool true]) w := by
 have hm : (⟨ks[i], .bool true, i⟩ : MapEntry) ∈ (entG ks).toList := by
  unfold entG
  simp only [List.mem_mapIdx]
  exact ⟨i, hlt, rfl⟩
 exact run_entry_at (P := P) w r b ks.length seen (entG ks) ks.length ⟨ks[i], .bool true, i⟩ hi h hm (entG_born ks)
theorem SetMap.notIter (h : SetMap w b ks) {r n : Nat} {seen : Array Nat} (hi : IterG w r b n seen) : b ≠ r := by
 intro e
 subst e
 unfold SetMap at h
 unfold IterG at hi
 rw [h] at hi
 cases hi

/-- 'range m'. -/
theorem wpList_range_set {ops : Array Oper} {rest : List Oper} {o : Oper} {a : Act} {Q : Exit → Act → World → Prop} (hg : o.guard = none) (m : Operand) (hop : o.op = Op.range t m) (ht : P.underlying t = some (.map k e)) (hm : a.eval m = .map (some b)) (h : SetMap w b ks)
  (hK : wpList P ops Q rest (a.put o.dst (.pointer (some ⟨w.heap.size, 0, none⟩))) (w.alloc (.mapIter (some b) ks.length #[] ks.length))) :
  wpList P ops Q (o :: rest) a w := by
 refine wpList_plain hg fun K' hK' => ?_
 have hrun := h.range (P := P) ht
 unfold Oper.wp
 simp [execOp, hop, hm, hrun, Result.andThen]
 exact hK' _ _ hK
/-- The step: nothing is left, or a key that was not handed out. -/
theorem wpList_next_set {ops : Array Oper} {rest : List Oper} {o : Oper} {a : Act} {Q : Exit → Act → World → Prop} (hg : o.guard = none) (it : Operand) (hop : o.op = Op.next it false) {r : Nat} {seen : Array Nat} (hit : a.eval it = .pointer (some ⟨r, 0, none⟩)) (h : SetMap w b ks) (hi : IterG w r b ks.length seen)
  (hDone : (∀ i, i < ks.length → i ∈ seen) → wpList P ops Q rest (a.put o.dst (.tuple #[.bool false])) w)
  (hMore : ∀ (i : Nat) (hlt : i < ks.length) (w' : World), i ∉ seen → IterG w' r b ks.length (seen.push i) → w.grownBy w' (some r) → (Instr.entry (.pointer (some ⟨r, 0, none⟩))).run P w' = .ok (.tuple #[ks[i], .bool true]) w' →
   wpList P ops Q rest (a.put o.dst (.tuple #[.bool true, ks[i], .bool true])) w') :
  wpList P ops Q (o :: rest) a w := by
 refine wpList_plain hg fun K' hK' => ?_
 unfold Oper.wp
 rcases h.next (P := P) hi o.type with ⟨h1, hrun⟩ | ⟨i, hlt, hn, w', hrun, hi', hgr⟩
 ·simp [execOp, hop, hit, hrun, Result.andThen]
  exact hK' _ _ (hDone h1)
 ·simp [execOp, hop, hit, hrun, Result.andThen]
  exact hK' _ _ (hMore i hlt w' hn hi' hgr (SetMap.entry (h.kept hgr (by simpa using h.notIter hi)) hlt hi'))

end
end Go.Proofs.YtbjbjbnbapeajaaGreatDoor

namespace Go.Proofs.YtbjbjbnbapeajaaGreatDoor
open Go Go.RowKit
open Go.Maps (Keyed)

def key2 (q : Int × Int) : Value := .agg #[.int .i64 q.1, .int .i64 q.2]
theorem key2_inj {a b : Int × Int} (h : key2 a = key2 b) : a = b := by
 obtain ⟨x, y⟩ := a
 obtain ⟨u, v⟩ := b
 simpa [key2] using h
theorem underMap2 : Tryz.prog.underlying 64 = some (.map 92 4) := Tryz.underlying64
theorem laidOut2 : laidOutB Tryz.prog = true := by kernel_rfl
theorem row2Ok : (92 : TypeId) < Tryz.prog.types.size := of_decide_eq_true (by kernel_rfl)
theorem wide2 : (match Tryz.prog.underlying 92 with | some (.array _ _) | some (.struct _) => true | _ => false) = true := by rw [Tryz.underlying92]
set_option maxRecDepth 100000 in
theorem law2 : WideMaps.KeyLaw Tryz.prog 92 := deep_law_laid laidOut2 (m := 2) (by omega) row2Ok (by kernel_rfl) wide2
theorem keyed2 : Keyed Tryz.prog 92 := Keyed.of_law law2
theorem cells2Ok : Tryz.prog.cellsOf 92 = 2 := by kernel_rfl
theorem cellsI2 : Tryz.prog.cellsOf 2 = 1 := by kernel_rfl
theorem keyType2 : Tryz.prog.keyType 92 = true := by kernel_rfl
theorem zeroBool2 (w : World) : (zeroValue 4).run Tryz.prog w = .ok (.bool false) w := by kernel_rfl
theorem wf_small2 {n : Int} (h0 : 0 ≤ n) (h1 : n < 40) : (Lit.int .i64 n).wf = true := by
 have h2 : IntKind.i64.min = -9223372036854775808 := by decide
 have h3 : IntKind.i64.max = 9223372036854775807 := by decide
 show (decide (IntKind.i64.min ≤ n) && decide (n ≤ IntKind.i64.max)) = true
 rw [h2, h3, decide_eq_true (by omega), decide_eq_true (by omega)]
 rfl
/-- A pair of small numbers. -/
def Small2 (q : Int × Int) : Prop := (0 ≤ q.1 ∧ q.1 < 40) ∧ 0 ≤ q.2 ∧ q.2 < 40
set_option maxRecDepth 100000 in
theorem keyOf2 {q : Int × Int} (h : Small2 q) : ∃ l, keyOf Tryz.prog 92 (key2 q) = some l := by
 obtain ⟨⟨a0, a1⟩, b0, b1⟩ := h
 have wa := wf_small2 a0 a1
 have wb := wf_small2 b0 b1
 obtain ⟨m, hm⟩ : ∃ m, Tryz.prog.types.size = m + 1 := ⟨_, Nat.succ_pred_eq_of_pos (Nat.lt_of_le_of_lt (Nat.zero_le _) row2Ok) |>.symm⟩
 refine ⟨.string (keyBytes [.int .i64 q.1, .int .i64 q.2]), ?_⟩
 unfold keyOf key2
 simp only [Tryz.underlying92]
 rw [if_pos (by simp [keyType2, Value.formed, Tryz.underlying92, cells2Ok]), hm]
 unfold Program.keyLits
 simp only [Tryz.underlying92, Value.cells]
 rw [if_pos (by rw [cells2Ok]; rfl), show List.range 2 = [0, 1] from rfl, List.mapM_cons, List.mapM_cons, List.mapM_nil]
 simp [cellsI2, Program.keyLits, Tryz.underlying2, wa, wb]

/-- A set of pairs as a map: its pairs in the order in which they came. -/
structure PairMap (w : World) (b : Nat) (ps : List (Int × Int)) : Prop where
 map : SetMap w b (ps.map key2)
 nodup : ps.Nodup
 small : ∀ q ∈ ps, Small2 q
theorem PairMap.keys {w : World} {b : Nat} {ps : List (Int × Int)} (h : PairMap w b ps) : ∀ v ∈ ps.map key2, ∃ l, keyOf Tryz.prog 92 v = some l := fun v hv => by
 obtain ⟨q, hq, rfl⟩ := List.mem_map.1 hv
 exact keyOf2 (h.small q hq)
theorem PairMap.below {w w' : World} {b : Nat} {ps : List (Int × Int)} (h : PairMap w b ps) (hb : Below w.heap.size w w') : PairMap w' b ps := ⟨h.map.below hb, h.nodup, h.small⟩
theorem PairMap.kept {w w' : World} {b : Nat} {ps : List (Int × Int)} {row : Option Nat} (h : PairMap w b ps) (hg : w.grownBy w' row) (hne : some b ≠ row) : PairMap w' b ps := ⟨h.map.kept hg hne, h.nodup, h.small⟩
theorem mem_key2 {ps : List (Int × Int)} {q : Int × Int} : key2 q ∈ ps.map key2 ↔ q ∈ ps := by
 constructor
 ·intro h
  obtain ⟨r, hr, e⟩ := List.mem_map.1 h
  rw [← key2_inj e]
  exact hr
 ·exact fun h => List.mem_map.2 ⟨q, h, rfl⟩
/-- Is the pair there? -/
theorem PairMap.look {w : World} {b : Nat} {ps : List (Int × Int)} (h : PairMap w b ps) {q : Int × Int} (hq : Small2 q) :
  (Instr.lookup 64 (.map (some b)) (key2 q) false).run Tryz.prog w = .ok (.bool (decide (q ∈ ps))) w := by
 by_cases hm : q ∈ ps
 ·rw [decide_eq_true hm]
  exact h.map.found keyed2 underMap2 h.keys (mem_key2.2 hm)
 ·rw [decide_eq_false hm]
  obtain ⟨kl, hkl⟩ := keyOf2 hq
  exact h.map.missing keyed2 underMap2 h.keys (zeroBool2 w) hkl (fun k => hm (mem_key2.1 k))
theorem PairMap.push {w : World} {b : Nat} {ps : List (Int × Int)} (h : PairMap w b ps) {q : Int × Int} (hq : Small2 q) (hn : q ∉ ps) (hroom : ps.length ≤ 1000000) :
  ∃ w', (Instr.mapUpdate 64 (.map (some b)) (key2 q) (.bool true)).run Tryz.prog w = .ok () w' ∧ PairMap w' b (ps ++ [q]) ∧ w.grownBy w' (some b) := by
 obtain ⟨kl, hkl⟩ := keyOf2 hq
 obtain ⟨w', h1, h2, h3⟩ := h.map.store keyed2 underMap2 h.keys hkl (fun k => hn (mem_key2.1 k)) (by rw [List.length_map]; unfold maxLen; omega)
 refine ⟨w', h1, ⟨by rw [List.map_append]; exact h2, ?_, fun r hr => ?_⟩, h3⟩
 ·rw [List.nodup_append]
  refine ⟨h.nodup, by simp, ?_⟩
  intro a ha b hb e
  rw [List.mem_singleton] at hb
  subst hb
  subst e
  exact hn ha
 ·rcases List.mem_append.1 hr with hr | hr
  ·exact h.small r hr
  ·rw [List.mem_singleton] at hr
   subst hr
   exact hq

end Go.Proofs.YtbjbjbnbapeajaaGreatDoor
