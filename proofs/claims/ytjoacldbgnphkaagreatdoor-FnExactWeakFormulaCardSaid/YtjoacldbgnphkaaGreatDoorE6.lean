/-
  What the implementation's functions on numbers' texts compute: strconv by the shelf's contracts.
  Lists in ascending order: one list for each set; what is left of a sorted list when equal neighbours are made one.
  The library's Sort, Compact and Clone at lists of numbers of the call's own.
  What the implementation's follow computes, from any list of states.
  Plain laws for follow and internal: what follow lists is a set; a list that grows until it is closed under internal edges.
  A map that numbers its keys in the order in which they came.
  The two comparisons that the implementation sorts by: labels (tau first), edges.
  What the implementation's internal and visible compute.
  Simulations of all three kinds: what answers an edge, which pairs are there at the start, the list of pairs. Plain.
-/
import Derived.Test.YtjoacldbgnphkaaGreatDoorE3
import Derived.Test.YtjoacldbgnphkaaGreatDoorE5
import Derived.WalkSmall
import Derived.Lib.AppendIntMem
import Derived.Lib.SlicesCompact
import Derived.Lib.RowBridge
import Derived.Sort.OwnSortedInts
import Derived.Lib.OwnBridge
import Derived.Test.YtjoacldbgnphkaaGreatDoorE4
import Derived.Test.YtjoacldbgnphkaaGreatDoorE1
import Derived.Maps.OwnOps
import Derived.Lib.Bytealg
import Derived.Sort.Grow
import Derived.Sort.OwnSorted
import Derived.BigQuiet
import Derived.Maps.AppendAt
import Derived.Deep.RegionHeld3
namespace Go.Proofs.YtjoacldbgnphkaaGreatDoor
open Go Go.RowKit

/-- What the library's own variables hold. -/
structure Glob (w : World) : Prop where
 max : ∃ m, w.cell? ⟨0, 0, none⟩ = some (.int .i64 m)
 syn : ∃ ev, w.cell? ⟨1, 0, none⟩ = some ev ∧ (ev = .nilIface ∨ ∃ te pe, ev = .iface te pe)
 rng : ∃ ev, w.cell? ⟨2, 0, none⟩ = some ev ∧ (ev = .nilIface ∨ ∃ te pe, ev = .iface te pe)
 tab : Lib.TabIs Tryz.prog w "internal/strconv.uint64pow10" .u64 Lib.pow10Tab

theorem Glob.below {w w' : World} (h : Glob w) (hb : Below w.heap.size w w') : Glob w' := by
 obtain ⟨⟨m, h1⟩, ⟨e1, h2, h2'⟩, ⟨e2, h3, h3'⟩, h4⟩ := h
 have hg : Tryz.prog.globalNamed "internal/strconv.uint64pow10" = some 5 := by kernel_rfl
 have hlt : 5 < w.heap.size := by
  have h5 := h4
  unfold Lib.TabIs World.var? at h5
  rw [hg] at h5
  simp only [Option.bind_some] at h5
  rcases Nat.lt_or_ge 5 w.heap.size with h | h
  ·exact h
  ·rw [Array.getElem?_eq_none h] at h5; simp at h5
 refine ⟨⟨m, keeps hb (World.block_lt_of_cell? w _ h1) h1⟩, ⟨e1, keeps hb (World.block_lt_of_cell? w _ h2) h2, h2'⟩, ⟨e2, keeps hb (World.block_lt_of_cell? w _ h3) h3, h3'⟩, ?_⟩
 exact var?_below hb hg hlt h4

theorem Decimal_any (n : Int) (w : World) (h0 : -9223372036854775808 ≤ n) (h1 : n ≤ 9223372036854775807) (g : Glob w) :
  Calls Tryz.prog 144 #[.int .i64 n] w fun e w' => e = .returned (.string ⟨(Lib.itoa n).toArray⟩) ∧ Below w.heap.size w w' := by
 have G := Lib.hid g.tab
 have H0 := Lib.hid h0
 have H1 := Lib.hid h1
 clear g h0 h1
 go_enter Tryz.func144, Tryz.ntmps144
 go_wp2_with fail
 refine (Tryz.strconv_FormatInt_10 n H0.out H1.out _ G.out).mono ?_
 rintro e w' ⟨rfl, k, os, rfl⟩
 have HB : Hid (Below w.heap.size w (Go.Sort.grow (w.drewN k) os)) := Lib.below_grow _ w (Nat.le_refl _) k os
 go_wp2_with fail
 go_ret
 exact ⟨rfl, HB.out⟩

/-- What ReadDecimal reads. -/
def readDec (l : List UInt8) : Option Int :=
 if 18 < (Lib.trimPrefix l [45]).length then none
 else match Lib.parseIntB 64 l with
  | .ok n => if Lib.itoa n = l then some n else none
  | _ => none

/-- ReadDecimal's answer. -/
def RetDec (l : List UInt8) (w : World) (e : Ending) (w' : World) : Prop := e = .returned (.tuple #[.int .i64 ((readDec l).getD 0), .bool (readDec l).isSome]) ∧ Below w.heap.size w w'

theorem ReadDecimal_any (s : ByteArray) (w : World) (hs : s.size ≤ 1073741824) (g : Glob w) : Calls Tryz.prog 130 #[.string s] w (RetDec s.data.toList w) := by
 have G := Lib.hid g
 clear g
 by_cases h18 : 18 < (Lib.trimPrefix s.data.toList [45]).length
 ·have HF : Hid (readDec s.data.toList = none) := by unfold Hid readDec; rw [if_pos h18]
  have HL := Lib.hid h18
  go_enter Tryz.func130, Tryz.ntmps130
  go_wp2_with fail
  refine (Tryz.strings_TrimPrefix s ⟨#[45]⟩ _).mono ?_
  rintro e w' ⟨rfl, rfl⟩
  have h18' : 18 < ((Lib.trimPrefix s.data.toList [45]).length : Int) := by omega
  clear h18
  go_wp2_with fail
  go_ret2
  unfold RetDec
  rw [HF.out]
  exact ⟨rfl, Below.refl _ _⟩
 ·have h18' : ¬ 18 < ((Lib.trimPrefix s.data.toList [45]).length : Int) := by omega
  have HR : Hid (readDec s.data.toList = match Lib.parseIntB 64 s.data.toList with
   | .ok n => if Lib.itoa n = s.data.toList then some n else none
   | _ => none) := by unfold Hid readDec; rw [if_neg h18]
  clear h18
  rcases hp : Lib.parseIntB 64 s.data.toList with v | _ | _
  ·have HP := Lib.hid hp
   have hbd := Lib.parseIntB_bounds hp
   have HB1 : Hid (-9223372036854775808 ≤ v) := by have := hbd.1; unfold Hid; simpa using this
   have HB2 : Hid (v ≤ 9223372036854775807) := by have := hbd.2; unfold Hid; simp at this; omega
   rw [hp] at HR
   clear hp hbd
   go_enter Tryz.func130, Tryz.ntmps130
   go_wp2_with fail
   refine (Tryz.strings_TrimPrefix s ⟨#[45]⟩ _).mono ?_
   rintro e w' ⟨rfl, rfl⟩
   go_wp2_with fail
   refine (Tryz.strconv_ParseInt_10_at64_ok s (by omega) v HP.out _).mono ?_
   rintro e w1 ⟨rfl, hw1⟩
   have HB3 : Hid (Below w'.heap.size w' w1) := by
    rcases hw1 with rfl | ⟨t, rfl⟩
    ·exact Below.refl _ _
    ·exact Lib.bytesWorld_below _ _ _
   clear hw1
   go_wp2_with fail
   refine (Decimal_any v _ HB1.out HB2.out (G.out.below HB3.out)).mono ?_
   rintro e w2 ⟨rfl, hb2⟩
   have HB4 := Lib.hid hb2
   clear hb2
   by_cases hq : Lib.itoa v = s.data.toList
   ·have HF : Hid (readDec s.data.toList = some v) := by unfold Hid; rw [HR.out, if_pos hq]
    go_wp2_with fail
    go_ret2
    unfold RetDec
    rw [HF.out]
    exact ⟨rfl, HB3.out.trans (HB4.out.mono HB3.out.size)⟩
   ·have HF : Hid (readDec s.data.toList = none) := by unfold Hid; rw [HR.out, if_neg hq]
    have hq' : (!Lib.itoa v == s.toList) = true := by rw [Lib.toList_data]; simpa using hq
    go_wp2_with fail
    go_ret2
    unfold RetDec
    rw [HF.out]
    exact ⟨rfl, HB3.out.trans (HB4.out.mono HB3.out.size)⟩
  ·have HP := Lib.hid hp
   rw [hp] at HR
   clear hp
   obtain ⟨ev, hv, hev⟩ := G.out.syn
   have HV := Lib.hid hv
   have HE := Lib.hid hev
   clear hv hev
   go_enter Tryz.func130, Tryz.ntmps130
   go_wp2_with fail
   refine (Tryz.strings_TrimPrefix s ⟨#[45]⟩ _).mono ?_
   rintro e w' ⟨rfl, rfl⟩
   go_wp2_with fail
   refine (Any.strconv_ParseInt_10_at64_syntax Tryz.laysC174 s (by omega) HP.out ev _ HV.out HE.out).mono ?_
   rintro e w1 ⟨N, rfl, -, -, hb⟩
   have HB3 := Lib.hid hb
   clear hb
   go_wp2_with fail
   go_ret2
   unfold RetDec
   rw [HR.out]
   exact ⟨rfl, HB3.out⟩
  ·have HP := Lib.hid hp
   rw [hp] at HR
   clear hp
   obtain ⟨ev, hv, hev⟩ := G.out.rng
   have HV := Lib.hid hv
   have HE := Lib.hid hev
   clear hv hev
   go_enter Tryz.func130, Tryz.ntmps130
   go_wp2_with fail
   refine (Tryz.strings_TrimPrefix s ⟨#[45]⟩ _).mono ?_
   rintro e w' ⟨rfl, rfl⟩
   go_wp2_with fail
   refine (Tryz.strconv_ParseInt_10_at64_range s (by omega) HP.out ev _ HV.out HE.out).mono ?_
   rintro e w1 ⟨N, rfl, -, -, hb⟩
   have HB3 := Lib.hid hb
   clear hb
   go_wp2_with fail
   go_ret2
   unfold RetDec
   rw [HR.out]
   exact ⟨rfl, HB3.out⟩

end Go.Proofs.YtjoacldbgnphkaaGreatDoor

namespace Go.Proofs.YtjoacldbgnphkaaGreatDoor
open Go Go.RowKit

theorem compact_upto {α : Type} [Inhabited α] [DecidableEq α] (lt : α → α → Prop) (ht : ∀ a b c, lt a b → lt b c → lt a c) (d : Array α) (hs : ∀ i j, i < j → j < d.size → d[i]! = d[j]! ∨ lt d[i]! d[j]!) :
  ∀ m, m ≤ d.size → (Lib.compactUpTo d m).Pairwise lt ∧ ∀ x, x ∈ Lib.compactUpTo d m ↔ ∃ j, j < m ∧ d[j]! = x
 | 0, _ => ⟨by simp [Lib.compactUpTo], fun x => by simp [Lib.compactUpTo]⟩
 | m + 1, hm => by
  obtain ⟨h1, h2⟩ := compact_upto lt ht d hs m (by omega)
  rw [Lib.compactUpTo_succ]
  by_cases hk : Lib.keeps d m = true
  ·rw [if_pos hk]
   refine ⟨?_, fun x => ?_⟩
   ·rw [List.pairwise_append]
    refine ⟨h1, by simp, fun a ha b hb => ?_⟩
    rw [List.mem_singleton] at hb
    subst hb
    obtain ⟨j, hj, rfl⟩ := (h2 a).1 ha
    unfold Lib.keeps at hk
    rw [decide_eq_true_eq] at hk
    rcases hk with hk | hk
    ·omega
    ·have hl : lt d[m - 1]! d[m]! := by
      rcases hs (m - 1) m (by omega) (by omega) with e | e
      ·exact absurd e.symm hk
      ·exact e
     by_cases hjm : j = m - 1
     ·rw [hjm]; exact hl
     ·rcases hs j (m - 1) (by omega) (by omega) with e | e
      ·rw [e]; exact hl
      ·exact ht _ _ _ e hl
   ·rw [List.mem_append, h2, List.mem_singleton]
    constructor
    ·rintro (⟨j, hj, e⟩ | e)
     ·exact ⟨j, by omega, e⟩
     ·exact ⟨m, by omega, e.symm⟩
    ·rintro ⟨j, hj, e⟩
     by_cases hjm : j = m
     ·subst hjm; exact .inr e.symm
     ·exact .inl ⟨j, by omega, e⟩
  ·rw [if_neg hk, List.append_nil]
   refine ⟨h1, fun x => ?_⟩
   rw [h2]
   have hk' : m ≠ 0 ∧ d[m]! = d[m - 1]! := by
    unfold Lib.keeps at hk
    rw [decide_eq_true_eq, not_or, Classical.not_not] at hk
    exact hk
   constructor
   ·rintro ⟨j, hj, e⟩
    exact ⟨j, by omega, e⟩
   ·rintro ⟨j, hj, e⟩
    by_cases hjm : j = m
    ·subst hjm
     exact ⟨j - 1, by omega, by rw [← hk'.2]; exact e⟩
    ·exact ⟨j, by omega, e⟩
theorem compact_is {α : Type} [Inhabited α] [DecidableEq α] (lt : α → α → Prop) (ht : ∀ a b c, lt a b → lt b c → lt a c) (zs : List α) (hs : zs.Pairwise fun a b => a = b ∨ lt a b) :
  (Lib.compact zs).Pairwise lt ∧ ∀ x, x ∈ Lib.compact zs ↔ x ∈ zs := by
 have hp := List.pairwise_iff_getElem.1 hs
 have hg : ∀ i (h : i < zs.length), zs.toArray[i]! = zs[i] := fun i h => by
  rw [getElem!_pos zs.toArray i (by simpa using h)]
  simp
 obtain ⟨h1, h2⟩ := compact_upto lt ht zs.toArray (fun i j hij hj => by
  have hj' : j < zs.length := by simpa using hj
  rw [hg i (by omega), hg j hj']
  exact hp i j (by omega) hj' hij) zs.length (by simp)
 refine ⟨h1, fun x => ?_⟩
 unfold Lib.compact
 rw [h2, List.mem_iff_getElem]
 constructor
 ·rintro ⟨j, hj, e⟩
  exact ⟨j, hj, by rw [← hg j hj]; exact e⟩
 ·rintro ⟨j, hj, e⟩
  exact ⟨j, hj, by rw [hg j hj]; exact e⟩

/-- A list that is sorted in numbers, then its equal neighbours made one: the set's list. -/
theorem sort_compact_is (xs : List Int) : IsSet (fun x => x ∈ xs) (Lib.compact (xs.mergeSort fun x y => decide (x ≤ y))) := by
 have hs : (xs.mergeSort fun x y => decide (x ≤ y)).Pairwise fun a b => a = b ∨ a < b := by
  have := List.pairwise_mergeSort (le := fun (x y : Int) => decide (x ≤ y)) (fun a b c h1 h2 => by simp at *; omega) (fun a b => by simp; omega) xs
  exact this.imp fun h => by simp at h; omega
 obtain ⟨h1, h2⟩ := compact_is (fun a b : Int => a < b) (fun a b c h k => by omega) _ hs
 exact ⟨fun x => (h2 x).trans List.mem_mergeSort, h1⟩
/-- A list without repeats, sorted: the set's list. -/
theorem sort_nodup_is (xs : List Int) (hn : xs.Nodup) : IsSet (fun x => x ∈ xs) (xs.mergeSort fun x y => decide (x ≤ y)) := by
 refine ⟨fun x => List.mem_mergeSort, ?_⟩
 have h1 := List.pairwise_mergeSort (le := fun (x y : Int) => decide (x ≤ y)) (fun a b c h1 h2 => by simp at *; omega) (fun a b => by simp; omega) xs
 have h2 : (xs.mergeSort fun x y => decide (x ≤ y)).Nodup := (List.mergeSort_perm xs _).nodup_iff.2 hn
 exact (h1.and h2).imp fun ⟨h, k⟩ => by simp at h; omega

end Go.Proofs.YtjoacldbgnphkaaGreatDoor

namespace Go.Proofs.YtjoacldbgnphkaaGreatDoor
open Go Go.RowKit

theorem Sort_own (base : Nat) (v : Value) (xs : List Int) (w : World) (ho : w.ownsRow base 2 1 v xs.length (xs.map (Value.int .i64))) (hz : xs.length ≤ 1048576) :
  Calls Tryz.prog 68 #[v] w fun e w' => e = .returned (.tuple #[]) ∧ w'.ownsRow base 2 1 v xs.length ((xs.mergeSort fun x y => decide (x ≤ y)).map (Value.int .i64)) ∧ w.grownBy w' v.ownBlock := by
 rcases ho.2 with ⟨rfl, h0⟩ | ⟨g, cap, cur, rfl, hb, hg, hn, hm, hs, ht⟩
 ·have hx : xs = [] := List.eq_nil_of_length_eq_zero h0
  subst hx
  refine (Tryz.slices_Sort_int_none none 0 w).mono ?_
  rintro e w' ⟨rfl, rfl⟩
  exact ⟨rfl, by simpa using ho, grown_refl _ _⟩
 ·rw [Nat.mul_one] at ht
  refine (Tryz.slices_Sort_int g 0 cap xs w (holds_of_blockI hg ht) (Array.getElem?_eq_some_iff.1 hg).1 (by omega)).mono ?_
  rintro e w' ⟨rfl, n, os, rfl⟩
  exact ⟨rfl, ownsRow_sortedI (List.length_mergeSort xs) hb hg hn hm hs, grownBy_sortedI _⟩

theorem grownBy_put {α : Type} [Inhabited α] {enc : α → Value} {w : World} {g q : Nat} (d : Array α) : w.grownBy (Go.Sort.putRow enc (Go.Sort.ahead w q) g 0 d) (some g) := by
 refine ⟨rfl, rfl, rfl, by simp [Go.Sort.putRow, Go.Sort.mapBlock, Go.Sort.ahead], fun k hk hne => ?_⟩
 have : g ≠ k := fun e => hne (by rw [e])
 simp [Go.Sort.putRow, Go.Sort.mapBlock, Go.Sort.ahead, Array.getElem?_modify, this]

theorem Compact_own (base : Nat) (v : Value) (xs : List Int) (w : World) (ho : w.ownsRow base 2 1 v xs.length (xs.map (Value.int .i64))) :
  Calls Tryz.prog 69 #[v] w fun e w' => ∃ v', e = .returned v' ∧ w'.ownsRow base 2 1 v' (Lib.compact xs).length ((Lib.compact xs).map (Value.int .i64)) ∧ w.grownBy w' v.ownBlock := by
 have hle := Lib.compact_length_le xs
 rcases ho.2 with ⟨rfl, h0⟩ | ⟨g, cap, cur, rfl, hb, hg, hn, hm, hs, ht⟩
 ·have hx : xs = [] := List.eq_nil_of_length_eq_zero h0
  subst hx
  refine (Tryz.slices_Compact_int_empty none 0 w).mono ?_
  rintro e w' ⟨rfl, rfl⟩
  exact ⟨_, rfl, by simpa [Lib.compact, Lib.compactUpTo] using ho, grown_refl _ _⟩
 ·rw [Nat.mul_one] at ht
  have hm2 : cap ≤ 9223372036854775807 := by simpa [maxLen] using hm
  refine (Tryz.slices_Compact_int g 0 cap xs w (holds_of_blockI hg ht) (by omega) hn).mono ?_
  rintro e w' ⟨rfl, q, rfl⟩
  have hc := Lib.ownsRow_putRow (q := q) (k := (Lib.compact xs).length) (ys := Lib.compact xs ++ List.replicate (xs.length - (Lib.compact xs).length) 0) ho (by simp; omega) hle
  rw [List.take_left] at hc
  exact ⟨_, rfl, hc, grownBy_put _⟩

theorem Clone_own (lo : Nat) (v : Value) (xs : List Int) (w : World) (hv : SliceK 1 encI lo w v xs) (hz : xs.length ≤ 1048576) :
  Calls Tryz.prog 126 #[v] w fun e w' => ∃ v', e = .returned v' ∧ w'.ownsRow w.heap.size 2 1 v' xs.length (xs.map (Value.int .i64)) ∧ Below w.heap.size w w' := by
 obtain ⟨a, c, rfl, hn, hc, hrow⟩ := hv
 cases a with
 | none =>
  have h0 : xs.length = 0 := by
   rcases hrow with h | ⟨b, o, h, -⟩
   ·exact h
   ·cases h
  have hx : xs = [] := List.eq_nil_of_length_eq_zero h0
  subst hx
  refine (Tryz.slices_Clone_int_nil _ _ w).mono ?_
  rintro e w' ⟨rfl, rfl⟩
  exact ⟨_, rfl, World.ownsRow_nil _ _ _ _, Below.refl _ _⟩
 | some a =>
  rcases hrow with h0 | ⟨b, o, h, -, hb, hcell⟩
  ·have hx : xs = [] := List.eq_nil_of_length_eq_zero h0
   subst hx
   refine (Tryz.slices_Clone_int_zero a c w).mono ?_
   rintro e w' ⟨v', rfl, ho, -, hb⟩
   exact ⟨v', rfl, ho, hb⟩
  ·cases h
   refine (Tryz.slices_Clone_int b o xs.length c xs w (Nat.le_refl _) (by omega) (fun j hj => ?_)).mono ?_
   ·have := hcell j hj 0 (by omega)
    rw [List.getD_eq_getElem?_getD, List.getElem?_eq_getElem hj]
    simpa [encI] using this
   ·rintro e w' ⟨v', rfl, ho, -, hb2⟩
    rw [List.take_length] at ho
    exact ⟨v', rfl, ho, hb2⟩

end Go.Proofs.YtjoacldbgnphkaaGreatDoor

namespace Go.Proofs.YtjoacldbgnphkaaGreatDoor
open Go Go.RowKit

theorem info_int64f : (Tryz.prog.info? 2).map (fun i => (i.zero, i.size, i.bytes)) = some (some (.int .i64 0), 1, 8) := by kernel_rfl

/-- An edge with the label from one of the states. -/
def hitS (p : Lts) (cur : List Int) (l : ByteArray) (e : Edge) : Bool := (cur.any fun y => y == e.src) && ((labAt p e).toList == l.toList)
def followR (p : Lts) (cur : List Int) (l : ByteArray) : List Int := (p.edges.filter (hitS p cur l)).map Edge.dst
def followL (p : Lts) (cur : List Int) (l : ByteArray) : List Int := Lib.compact ((followR p cur l).mergeSort fun x y => decide (x ≤ y))
theorem hitS_take {p : Lts} {cur : List Int} {l : ByteArray} {k : Nat} (h : k < p.edges.length) (g : hitS p cur l p.edges[k] = true) :
  ((p.edges.take (k + 1)).filter (hitS p cur l)).map Edge.dst = ((p.edges.take k).filter (hitS p cur l)).map Edge.dst ++ [p.edges[k].dst] := by
 rw [List.take_succ_eq_append_getElem h, List.filter_append, List.map_append]
 simp [g]
theorem missS_take {p : Lts} {cur : List Int} {l : ByteArray} {k : Nat} (h : k < p.edges.length) (g : hitS p cur l p.edges[k] = false) :
  ((p.edges.take (k + 1)).filter (hitS p cur l)).map Edge.dst = ((p.edges.take k).filter (hitS p cur l)).map Edge.dst := by
 rw [List.take_succ_eq_append_getElem h, List.filter_append, List.map_append]
 simp [g]

set_option maxRecDepth 100000 in
set_option maxHeartbeats 2000000 in
theorem follow_any (lo lo2 : Nat) (p : Lts) (lv ev sv : Value) (cur : List Int) (l : ByteArray) (w : World) (hvp : Valid p) (hl : SliceK 1 encS lo w lv p.labels) (he : SliceK 3 encE lo w ev p.edges) (hs : SliceK 1 encI lo2 w sv cur) :
  Calls Tryz.prog 74 #[.agg #[.int .i64 p.states, .int .i64 p.initial, lv, ev], sv, .string l] w (MadeNums (followL p cur l) w) := by
 have HS := Lib.hid hs
 have HE := Lib.hid hvp.edge
 have hmost := hvp.most
 clear hs hvp
 obtain ⟨al, cl, rfl, hln, hlc, hlr⟩ := hl
 obtain ⟨ae, ce, rfl, hen, hec, hrow⟩ := he
 have HLR := Lib.hid hlr
 have HER := Lib.hid hrow
 clear hlr hrow
 obtain ⟨i0, hi, hz0, hz1, hz2⟩ := info_parts info_int64f
 have HB0 : Hid (Below w.heap.size w (w.alloc (.cells #[.int .i64 p.states, .int .i64 p.initial, .slice al p.labels.length cl, .slice ae p.edges.length ce] 32))) := (Below.refl _ _).alloc (Nat.le_refl _) _
 have HQ2 : Hid ((w.alloc (.cells #[.int .i64 p.states, .int .i64 p.initial, .slice al p.labels.length cl, .slice ae p.edges.length ce] 32)).cell? ⟨w.heap.size, 2, none⟩ = some (.slice al p.labels.length cl)) := by unfold Hid; simp
 obtain ⟨wB, hwB⟩ : ∃ wB, wB = w.alloc (.cells #[.int .i64 p.states, .int .i64 p.initial, .slice al p.labels.length cl, .slice ae p.edges.length ce] 32) := ⟨_, rfl⟩
 have hwz : wB.heap.size = w.heap.size + 1 := by rw [hwB]; simp
 rw [← hwB] at HB0 HQ2
 have HWB := Lib.hid hwB
 clear hwB
 go_enter Tryz.func74, Tryz.ntmps74
 go_wp2_with fail
 rw [← HWB.out]
 clear HWB
 go_loopw [7, 13] (fun v i wr => ∃ k : Nat, k ≤ p.edges.length ∧ i = .int .i64 k ∧ Below wB.heap.size wB wr ∧ wr.ownsRow wB.heap.size 2 1 v (((p.edges.take k).filter (hitS p cur l)).map Edge.dst).length ((((p.edges.take k).filter (hitS p cur l)).map Edge.dst).map (Value.int .i64))) (fun _ i _ => p.edges.length - (intOf i).toNat)
 case atStart => exact ⟨0, Nat.zero_le _, rfl, Below.refl _ _, World.ownsRow_nil _ _ _ _⟩
 case round =>
  obtain ⟨k, hk, rfl, hbl, ho⟩ := hrel
  have HBL := Lib.hid hbl
  have HO := Lib.hid ho
  have hsz := hbl.size
  have q2 := keeps hbl (by omega) HQ2.out
  have hwr : w.heap.size < wr.heap.size := by omega
  have hfl : (((p.edges.take k).filter (hitS p cur l)).map Edge.dst).length ≤ k := by rw [List.length_map]; exact Nat.le_trans (List.length_filter_le _ _) (List.length_take_le _ _)
  clear hbl ho
  by_cases hlt : k < p.edges.length
  ·have hbr := HB0.out.trans (HBL.out.mono HB0.out.size)
   obtain ⟨be, oe, rfl, -, hbe, e1, e2, e3⟩ := (HER.out.below hbr).edge hlt
   have hek := HE.out k hlt
   obtain ⟨hll, hla⟩ := labAt_idx hek
   obtain ⟨bl, ol, rfl, -, hbl2, c1⟩ := (HLR.out.below hbr).one hll
   simp only [encS, List.getElem?_cons_zero] at c1
   rw [← hla] at c1
   have hl0 : ((p.edges[k].lab.toNat : Nat) : Int) = p.edges[k].lab := by have := hek.l0; omega
   have hl1 := hek.l1
   have hl2 := hek.l0
   obtain ⟨e, hee⟩ : ∃ e, e = p.edges[k] := ⟨_, rfl⟩
   obtain ⟨m, hm⟩ : ∃ m, m = p.edges[k].lab.toNat := ⟨_, rfl⟩
   rw [← hm] at c1 hl0 hll
   rw [← hee] at e1 e2 e3 c1 hl0 hl1 hl2
   have HEE := Lib.hid hee
   rw [← hl0] at e2
   have HBA : Hid (Below wB.heap.size wB (wr.alloc (.cells #[.int .i64 e.src, .int .i64 m, .int .i64 e.dst] 66))) := HBL.out.alloc hsz _
   have HSA : Hid (SliceK 1 encI lo2 (wr.alloc (.cells #[.int .i64 e.src, .int .i64 m, .int .i64 e.dst] 66)) sv cur) := HS.out.below (hbr.alloc hbr.size _)
   have HOA : Hid ((wr.alloc (.cells #[.int .i64 e.src, .int .i64 m, .int .i64 e.dst] 66)).ownsRow wB.heap.size 2 1 u7 (((p.edges.take k).filter (hitS p cur l)).map Edge.dst).length ((((p.edges.take k).filter (hitS p cur l)).map Edge.dst).map (Value.int .i64))) := HO.out.alloc _
   have hml : (m : Int) < (p.labels.length : Int) := by omega
   clear hl0 hl1 hl2 hek hbr hla
   cases g1 : ((labAt p e).toList == l.toList)
   ·have HG : Hid (hitS p cur l p.edges[k] = false) := by unfold Hid hitS; rw [← hee, g1, Bool.and_false]
    clear hee hm
    go_wp2_with fail
    go_roundw
    case rel => exact ⟨k + 1, by omega, by go_num, HBA.out, by rw [missS_take hlt HG.out]; exact HOA.out⟩
    case measure => simp [intOf]; omega
   ·cases g2 : (cur.any fun y => y == e.src)
    ·have HG : Hid (hitS p cur l p.edges[k] = false) := by
      unfold Hid hitS
      rw [← hee, g2, Bool.false_and]
     have HG2 := Lib.hid g2
     clear hee hm g2
     go_wp2_with fail
     refine (Contains_ints lo2 _ _ cur _ HSA.out).mono ?_
     rintro e' w' ⟨rfl, rfl⟩
     rw [HG2.out]
     go_wp2_with fail
     go_roundw
     case rel => exact ⟨k + 1, by omega, by go_num, HBA.out, by rw [missS_take hlt HG.out]; exact HOA.out⟩
     case measure => simp [intOf]; omega
    ·have HG : Hid (hitS p cur l p.edges[k] = true) := by
      unfold Hid hitS
      rw [← hee, g2, g1]; rfl
     have HG2 := Lib.hid g2
     have HD : Hid (p.edges[k].dst = e.dst) := by unfold Hid; rw [← hee]
     clear hee hm g2
     have hfz := hfl
     generalize hfs : ((p.edges.take k).filter (hitS p cur l)).map Edge.dst = fs at *
     have HFS := Lib.hid hfs
     clear hfs
     go_wp2_with fail
     refine (Contains_ints lo2 _ _ cur _ HSA.out).mono ?_
     rintro e' w' ⟨rfl, rfl⟩
     rw [HG2.out]
     go_wp2_with (at_builtin; refine wpList_append_own _ rfl _ _ 69 rfl wB.heap.size 2 i0 (.int .i64 0) 1 8 Tryz.underlying69 hi hz0 hz1 hz2 rfl (by decide) _ _ _ rfl (HOA.out.alloc _) ⟨wr.heap.size + 1, 0, none⟩ 1 1 [.int .i64 e.dst] rfl rfl ?c1 ?c2 ?c3 ?c4 ?c5 ?_)
     case c1 => have := cell_one_new (wr.alloc (.cells #[.int .i64 e.src, .int .i64 m, .int .i64 e.dst] 66)) (.int .i64 e.dst) 2; simpa using this
     case c2 => intro u hu; simp at hu; subst hu; rfl
     case c3 => simp [maxLen]; omega
     case c4 => omega
     case c5 => simp; omega
     intro v' w3 ho1 hg1 _
     have HO2 : Hid (w3.ownsRow wB.heap.size 2 1 v' (fs ++ [e.dst]).length ((fs ++ [e.dst]).map (Value.int .i64))) := by
      unfold Hid
      rw [List.length_append, List.map_append, hwz]
      exact ho1
     have HB2 : Hid (Below wB.heap.size wB w3) := (HBA.out.alloc (by simp; omega) _).grown hg1 (by simp; omega) (fun b e => (HO.out.lt b e).1)
     clear ho1 hg1
     go_wp2_with fail
     go_roundw
     case rel => exact ⟨k + 1, by omega, by go_num, HB2.out, by rw [hitS_take hlt HG.out, HFS.out, HD.out]; exact HO2.out⟩
     case measure => simp [intOf]; omega
  ·obtain rfl : k = p.edges.length := by omega
   have HO2 : Hid (wr.ownsRow wB.heap.size 2 1 u7 (followR p cur l).length ((followR p cur l).map (Value.int .i64))) := by
    have := HO.out
    rw [List.take_length] at this
    exact this
   rw [List.take_length] at hfl
   have hfl2 : (followR p cur l).length ≤ 1048576 := by unfold followR; omega
   have HS1 := Lib.hid (Sort_own wB.heap.size u7 _ wr HO2.out hfl2)
   clear HO HER HLR q2 hfl hfl2
   go_wp2_with fail
   refine Calls.mono HS1.out ?_
   rintro e' w1 ⟨rfl, ho1, hg1⟩
   have HB1 := Lib.hid (HBL.out.grown hg1 (by exact hsz) (fun b e => (HO2.out.lt b e).1))
   have HS2 := Lib.hid (Compact_own wB.heap.size u7 ((followR p cur l).mergeSort fun x y => decide (x ≤ y)) w1 (by rw [List.length_mergeSort]; exact ho1))
   have HLT := Lib.hid (fun b e => (ho1.lt b e).1)
   clear ho1 hg1 HS1
   go_wp2_with fail
   refine Calls.mono HS2.out ?_
   rintro e' w2 ⟨v2, rfl, ho2, hg2⟩
   have HB2 := Lib.hid (HB1.out.grown hg2 HB1.out.size HLT.out)
   have HO3 := Lib.hid ho2
   clear ho2 hg2 HS2
   go_wp2_with fail
   go_ret
   exact ⟨_, rfl, HB0.out.trans (HB2.out.mono HB0.out.size), own_lower HO3.out HB0.out.size⟩

end Go.Proofs.YtjoacldbgnphkaaGreatDoor

namespace Go.Proofs.YtjoacldbgnphkaaGreatDoor
open Go Go.RowKit

theorem mem_followR {p : Lts} {cur : List Int} {l : ByteArray} {x : Int} : x ∈ followR p cur l ↔ ∃ e ∈ p.edges, e.src ∈ cur ∧ (labAt p e).toList = l.toList ∧ e.dst = x := by
 unfold followR hitS
 rw [List.mem_map]
 constructor
 ·rintro ⟨e, he, rfl⟩
  rw [List.mem_filter, Bool.and_eq_true, List.any_eq_true] at he
  obtain ⟨h1, ⟨y, hy, h2⟩, h3⟩ := he
  rw [beq_iff_eq] at h2 h3
  subst h2
  exact ⟨e, h1, hy, h3, rfl⟩
 ·rintro ⟨e, h1, h2, h3, rfl⟩
  refine ⟨e, ?_, rfl⟩
  rw [List.mem_filter, Bool.and_eq_true, List.any_eq_true]
  exact ⟨h1, ⟨e.src, h2, by rw [beq_iff_eq]⟩, by rw [beq_iff_eq]; exact h3⟩
theorem followL_is {t : Lts} (hv : Valid t) (cur : List Int) {k : Nat} (hk : k < t.labels.length) : IsSet (behindP t cur k) (followL t cur t.labels[k]) := by
 refine (sort_compact_is (followR t cur t.labels[k])).congr fun x => ?_
 rw [mem_followR]
 unfold behindP
 constructor
 ·rintro ⟨e, he, h1, h2, h3⟩
  refine ⟨e, he, ?_, h1, h3⟩
  obtain ⟨i, hi, rfl⟩ := List.mem_iff_getElem.1 he
  have hok := hv.edge i hi
  obtain ⟨hlt, hla⟩ := labAt_idx hok
  rw [hla] at h2
  have := labels_inj hv.labels _ _ hlt hk h2
  have := hok.l0
  omega
 ·rintro ⟨e, he, h1, h2, h3⟩
  refine ⟨e, he, h2, ?_, h3⟩
  obtain ⟨i, hi, rfl⟩ := List.mem_iff_getElem.1 he
  have hok := hv.edge i hi
  obtain ⟨hlt, hla⟩ := labAt_idx hok
  rw [hla]
  congr 2
  omega
theorem followL_len {p : Lts} (h : p.edges.length ≤ 300) (cur : List Int) (l : ByteArray) : (followL p cur l).length ≤ 300 := by
 unfold followL
 refine Nat.le_trans (Lib.compact_length_le _) ?_
 rw [List.length_mergeSort]
 unfold followR
 rw [List.length_map]
 exact Nat.le_trans (List.length_filter_le _ _) h

theorem few_states {n : Int} {l : List Int} (hd : l.Nodup) (h : ∀ x ∈ l, 0 ≤ x ∧ x < n) (hn : n ≤ 40) : l.length ≤ 40 := by
 have h1 : (l.map Int.toNat).Nodup := by
  rw [List.nodup_iff_pairwise_ne, List.pairwise_map]
  refine List.Pairwise.imp_of_mem ?_ (List.nodup_iff_pairwise_ne.1 hd)
  intro a b ha hb hne e
  have := h a ha
  have := h b hb
  exact hne (by omega)
 have := nodup_lt 40 (l.map Int.toNat) h1 (fun x hx => by
  obtain ⟨y, hy, rfl⟩ := List.mem_map.1 hx
  have := h y hy
  omega)
 rwa [List.length_map] at this

/-- A list on its way to what internal edges reach from S: its first i members are done. -/
structure IntOk (t : Lts) (S O : List Int) (i : Nat) : Prop where
 nodup : O.Nodup
 base : ∀ x ∈ S, x ∈ O
 sound : ∀ x ∈ O, clos t (fun y => y ∈ S) x
 upto : i ≤ O.length
 closed : ∀ j (h : j < O.length), j < i → ∀ e ∈ t.edges, e.lab = 0 → e.src = O[j] → e.dst ∈ O
theorem IntOk.start {t : Lts} {S : List Int} (h : S.Nodup) : IntOk t S S 0 := ⟨h, fun _ hx => hx, fun _ hx => clos.base hx, Nat.zero_le _, fun _ _ h => by omega⟩
theorem IntOk.range {t : Lts} (hv : Valid t) {S O : List Int} {i : Nat} (h : IntOk t S O i) (hS : ∀ x ∈ S, 0 ≤ x ∧ x < t.states) : ∀ x ∈ O, 0 ≤ x ∧ x < t.states :=
 fun x hx => clos.inside hv (fun y hy => hS y hy) x (h.sound x hx)
theorem IntOk.add {t : Lts} {S O : List Int} {i : Nat} (h : IntOk t S O i) {x : Int} (hx : x ∉ O) (hc : clos t (fun y => y ∈ S) x) : IntOk t S (O ++ [x]) i := by
 refine ⟨?_, fun y hy => List.mem_append_left _ (h.base y hy), ?_, by rw [List.length_append]; have := h.upto; omega, ?_⟩
 ·rw [List.nodup_append]
  exact ⟨h.nodup, by simp, fun a ha b hb e => by rw [List.mem_singleton] at hb; subst hb; subst e; exact hx ha⟩
 ·intro y hy
  rcases List.mem_append.1 hy with hy | hy
  ·exact h.sound y hy
  ·rw [List.mem_singleton] at hy; subst hy; exact hc
 ·intro j hj hji e he hl hs
  have hjo : j < O.length := by have := h.upto; omega
  rw [List.getElem_append_left hjo] at hs
  exact List.mem_append_left _ (h.closed j hjo hji e he hl hs)
theorem IntOk.next {t : Lts} {S O : List Int} {i : Nat} (h : IntOk t S O i) (hi : i < O.length) (hc : ∀ e ∈ t.edges, e.lab = 0 → e.src = O[i] → e.dst ∈ O) : IntOk t S O (i + 1) := by
 refine ⟨h.nodup, h.base, h.sound, hi, fun j hj hji e he hl hs => ?_⟩
 by_cases hji2 : j = i
 ·subst hji2; exact hc e he hl hs
 ·exact h.closed j hj (by omega) e he hl hs
theorem IntOk.done {t : Lts} {S O : List Int} {i : Nat} (h : IntOk t S O i) (hi : i = O.length) (x : Int) : x ∈ O ↔ clos t (fun y => y ∈ S) x := by
 refine ⟨h.sound x, fun hx => hx.least (Q := fun y => y ∈ O) h.base fun e he hl hs => ?_⟩
 obtain ⟨j, hj, hs⟩ := List.mem_iff_getElem.1 hs
 exact h.closed j hj (by omega) e he hl hs.symm

/-- The list within the work at its i-th member q: of what follows q the first m are in. -/
structure IntIn (t : Lts) (S O F : List Int) (q : Int) (i m : Nat) : Prop where
 ok : IntOk t S O i
 here : O[i]? = some q
 got : ∀ x ∈ F.take m, x ∈ O
theorem IntIn.start {t : Lts} {S O F : List Int} {i : Nat} (h : IntOk t S O i) (hi : i < O.length) : IntIn t S O F O[i] i 0 := ⟨h, List.getElem?_eq_getElem hi, by simp⟩
theorem IntIn.old {t : Lts} {S O F : List Int} {q : Int} {i m : Nat} (h : IntIn t S O F q i m) (hm : m < F.length) (hx : F[m] ∈ O) : IntIn t S O F q i (m + 1) := by
 refine ⟨h.ok, h.here, fun x hy => ?_⟩
 rw [List.take_succ_eq_append_getElem hm, List.mem_append, List.mem_singleton] at hy
 rcases hy with hy | rfl
 ·exact h.got x hy
 ·exact hx
theorem IntIn.new {t : Lts} {S O F : List Int} {q : Int} {i m : Nat} (h : IntIn t S O F q i m) (hF : ∀ x ∈ F, behindP t [q] 0 x) (hm : m < F.length) (hx : F[m] ∉ O) : IntIn t S (O ++ [F[m]]) F q i (m + 1) := by
 have hq : q ∈ O := List.mem_of_getElem? h.here
 refine ⟨h.ok.add hx ?_, ?_, fun x hy => ?_⟩
 ·obtain ⟨e, he, h1, h2, h3⟩ := hF _ (List.getElem_mem hm)
  rw [List.mem_singleton] at h2
  rw [← h3]
  exact clos.next (by rw [h2]; exact h.ok.sound q hq) he h1
 ·rw [List.getElem?_append_left (List.getElem?_eq_some_iff.1 h.here).1]; exact h.here
 ·rw [List.take_succ_eq_append_getElem hm, List.mem_append, List.mem_singleton] at hy
  rcases hy with hy | rfl
  ·exact List.mem_append_left _ (h.got x hy)
  ·simp
theorem IntIn.done {t : Lts} {S O F : List Int} {q : Int} {i : Nat} (h : IntIn t S O F q i F.length) (hF : ∀ x, behindP t [q] 0 x → x ∈ F) : IntOk t S O (i + 1) := by
 obtain ⟨hi, hq⟩ := List.getElem?_eq_some_iff.1 h.here
 refine h.ok.next hi fun e he hl hs => ?_
 have := h.got e.dst
 rw [List.take_length] at this
 exact this (hF _ ⟨e, he, hl, by rw [hs, hq]; simp, rfl⟩)

theorem closL_is {t : Lts} (hv : Valid t) {S : List Int} (hS : ∀ x ∈ S, 0 ≤ x ∧ x < t.states) : IsSet (clos t fun y => y ∈ S) (setL t.states (clos t fun y => y ∈ S)) := setL_is (clos.inside hv hS)
end Go.Proofs.YtjoacldbgnphkaaGreatDoor

namespace Go.Proofs.YtjoacldbgnphkaaGreatDoor
open Go Go.RowKit Go.ChangeMaps Go.MapKept
open Go.Maps (Keyed)

/-- The block of a map whose i-th key leads to i. -/
def NumMap (q : IntKind) (w : World) (b : Nat) (ks : List Value) : Prop := w.heap[b]? = some (.map (ks.mapIdx fun i k => (⟨k, .int q i, i⟩ : MapEntry)).toArray ks.length)

theorem NumMap.made (q : IntKind) (w : World) : NumMap q (w.alloc (.map #[] 0)) w.heap.size [] := (MapKept.heap_alloc w _).1

theorem NumMap.kept {q : IntKind} {w w' : World} {b : Nat} {ks : List Value} {row : Option Nat} (h : NumMap q w b ks) (hg : w.grownBy w' row) (hne : some b ≠ row) : NumMap q w' b ks :=
 (hg.block b (Array.getElem?_eq_some_iff.1 h).1 hne).trans h

theorem NumMap.below {q : IntKind} {w w' : World} {b : Nat} {ks : List Value} (h : NumMap q w b ks) (hb : Below w.heap.size w w') : NumMap q w' b ks :=
 (hb.block b (Array.getElem?_eq_some_iff.1 h).1).trans h

theorem entry_key {q : IntKind} {ks : List Value} {e : MapEntry} (h : e ∈ (ks.mapIdx fun i k => (⟨k, .int q i, i⟩ : MapEntry)).toArray.toList) : e.key ∈ ks := by
 simp only [List.mem_mapIdx] at h
 obtain ⟨i, hi, rfl⟩ := h
 exact List.getElem_mem hi

theorem nodup_get {α : Type} {l : List α} (hd : l.Nodup) {i j : Nat} (hi : i < l.length) (hj : j < l.length) (h : l[i] = l[j]) : i = j := by
 have hp := List.pairwise_iff_getElem.1 hd
 rcases Nat.lt_trichotomy i j with h1 | h1 | h1
 ·exact absurd h (hp i j hi hj h1)
 ·exact h1
 ·exact absurd h.symm (hp j i hj hi h1)

section
variable {P : Program} {k t e : TypeId} {q : IntKind} {w : World} {b : Nat} {ks : List Value}

theorem NumMap.found (h : NumMap q w b ks) (K : Keyed P k) (ht : P.underlying t = some (.map k e)) (hks : ∀ v ∈ ks, ∃ l, keyOf P k v = some l) (hd : ks.Nodup) {i : Nat} (hi : i < ks.length) :
  (Instr.lookup t (.map (some b)) ks[i] true).run P w = .ok (.tuple #[.int q i, .bool true]) w := by
 obtain ⟨kl, hkey⟩ := hks _ (List.getElem_mem hi)
 rcases K.find w hkey (ks.mapIdx fun i k => (⟨k, .int q i, i⟩ : MapEntry)).toArray.toList (fun x hx => hks _ (entry_key hx)) with ⟨_, h2⟩ | ⟨j, e0, h1, h2, h3⟩
 ·exfalso
  refine h2 ⟨ks[i], .int q i, i⟩ ?_ rfl
  simp only [List.mem_mapIdx]
  exact ⟨i, hi, rfl⟩
 ·simp only [List.getElem?_mapIdx, Option.map_eq_some_iff] at h2
  obtain ⟨k', hk', rfl⟩ := h2
  obtain ⟨hj, hk'⟩ := List.getElem?_eq_some_iff.1 hk'
  simp only at h3
  have e1 : j = i := nodup_get hd hj hi (hk'.trans h3)
  subst e1
  have hb : w.heap[b]? = some (.map (ks.mapIdx fun i k => (⟨k, .int q i, i⟩ : MapEntry)).toArray ks.length) := h
  simp only at h1
  simp [Instr.lookup, run_underlying ht, MapKept.run_getObj_map hb, K.check w _ hkey, h1, Result.andThen]

theorem NumMap.missing (h : NumMap q w b ks) (K : Keyed P k) (ht : P.underlying t = some (.map k e)) (hks : ∀ v ∈ ks, ∃ l, keyOf P k v = some l) (hz : (zeroValue e).run P w = .ok (.int q 0) w) {key : Value} {kl : Lit} (hkey : keyOf P k key = some kl) (hn : key ∉ ks) :
  (Instr.lookup t (.map (some b)) key true).run P w = .ok (.tuple #[.int q 0, .bool false]) w := by
 rcases K.find w hkey (ks.mapIdx fun i k => (⟨k, .int q i, i⟩ : MapEntry)).toArray.toList (fun x hx => hks _ (entry_key hx)) with ⟨h1, _⟩ | ⟨j, e0, _, h2, h3⟩
 ·have hb : w.heap[b]? = some (.map (ks.mapIdx fun i k => (⟨k, .int q i, i⟩ : MapEntry)).toArray ks.length) := h
  simp only at h1
  simp [Instr.lookup, run_underlying ht, MapKept.run_getObj_map hb, K.check w _ hkey, h1, hz, Result.andThen]
 ·exact absurd (h3 ▸ entry_key (List.mem_of_getElem? h2)) hn

theorem NumMap.store (h : NumMap q w b ks) (K : Keyed P k) (ht : P.underlying t = some (.map k e)) (hks : ∀ v ∈ ks, ∃ l, keyOf P k v = some l) {key : Value} {kl : Lit} (hkey : keyOf P k key = some kl) (hn : key ∉ ks) (hroom : ks.length < maxLen) :
  ∃ w', (Instr.mapUpdate t (.map (some b)) key (.int q ks.length)).run P w = .ok () w' ∧ NumMap q w' b (ks ++ [key]) ∧ w.grownBy w' (some b) := by
 have hb : w.heap[b]? = some (.map (ks.mapIdx fun i k => (⟨k, .int q i, i⟩ : MapEntry)).toArray ks.length) := h
 have e1 : ((ks ++ [key]).mapIdx fun i k => (⟨k, .int q i, i⟩ : MapEntry)).toArray = (ks.mapIdx fun i k => (⟨k, .int q i, i⟩ : MapEntry)).toArray.push ⟨key, .int q ks.length, ks.length⟩ := by
  rw [List.mapIdx_append]
  simp
 rcases K.find w hkey (ks.mapIdx fun i k => (⟨k, .int q i, i⟩ : MapEntry)).toArray.toList (fun x hx => hks _ (entry_key hx)) with ⟨h1, _⟩ | ⟨j, e0, _, h2, h3⟩
 ·refine ⟨setBlock w b (.map ((ks.mapIdx fun i k => (⟨k, .int q i, i⟩ : MapEntry)).toArray.push ⟨key, .int q ks.length, ks.length⟩) (ks.length + 1)), ?_, ?_, ?_⟩
  ·simp only at h1
   have hr : ks.length < 9223372036854775807 := hroom
   simp [Instr.mapUpdate, run_underlying ht, MapKept.run_getObj_map hb, K.check w false hkey, h1, MapKept.run_setObj_map _ hb, Result.andThen, setBlock]
  ·unfold NumMap
   rw [e1, List.length_append, List.length_singleton]
   exact heap_setBlock_same hb _
  ·exact ⟨rfl, rfl, rfl, by simp [setBlock], fun i _ hi => heap_setBlock_other hb _ (fun e => hi (by rw [e]))⟩
 ·exact absurd (h3 ▸ entry_key (List.mem_of_getElem? h2)) hn

end
end Go.Proofs.YtjoacldbgnphkaaGreatDoor

namespace Go.Proofs.YtjoacldbgnphkaaGreatDoor
open Go Go.RowKit


theorem edgeLess_iff (a b : Edge) : edgeLess a b = true ↔ (a.src < b.src ∨ (a.src = b.src ∧ (a.lab < b.lab ∨ (a.lab = b.lab ∧ a.dst < b.dst)))) := by
 unfold edgeLess
 split
 ·rw [decide_eq_true_eq]; omega
 ·split
  ·rw [decide_eq_true_eq]; omega
  ·rw [decide_eq_true_eq]; omega
end Go.Proofs.YtjoacldbgnphkaaGreatDoor

namespace Go.Proofs.YtjoacldbgnphkaaGreatDoor
open Go Go.RowKit

theorem cell_numK {w : World} {base e g n cap : Nat} {c : List Int} (h : w.ownsRow base e 1 (.slice (some ⟨g, 0, none⟩) n cap) n (c.map (Value.int .i64))) {i : Nat} (hi : i < n) : w.cell? ⟨g, i, none⟩ = some (.int .i64 (c.getD i 0)) := by
 have h1 := h.cellAt i (by omega)
 have hl : c.length = n := by have := h.1; simpa using this
 rw [h1, List.getElem?_map, List.getElem?_eq_getElem (by omega), List.getD_eq_getElem?_getD, List.getElem?_eq_getElem (by omega)]
 rfl
def tauT : ByteArray := ⟨#[116, 97, 117]⟩
theorem tau_first {t : Lts} (hv : Valid t) : ∃ h : 0 < t.labels.length, t.labels[0] = tauT :=
 ⟨hv.labels.pos, data_inj (by rw [← Lib.toList_data, hv.labels.first hv.labels.pos]; rfl)⟩
theorem info_int64y : (Tryz.prog.info? 2).map (fun i => (i.zero, i.size, i.bytes)) = some (some (.int .i64 0), 1, 8) := by kernel_rfl

set_option maxRecDepth 100000 in
set_option maxHeartbeats 4000000 in
theorem internal_any (lo lo2 : Nat) (t : Lts) (lv ev sv : Value) (S : List Int) (w : World) (hv : Valid t) (hl : SliceK 1 encS lo w lv t.labels) (he : SliceK 3 encE lo w ev t.edges) (hs : SliceK 1 encI lo2 w sv S) (hin : ∀ x ∈ S, 0 ≤ x ∧ x < t.states) (hnd : S.Nodup) :
  Calls Tryz.prog 97 #[.agg #[.int .i64 t.states, .int .i64 t.initial, lv, ev], sv] w (MadeNums (setL t.states (clos t fun y => y ∈ S)) w) := by
 have HV := Lib.hid hv
 have HIN := Lib.hid hin
 have HND := Lib.hid hnd
 have hS40 := few_states hnd hin hv.st1
 have HL := Lib.hid hl
 have HE := Lib.hid he
 obtain ⟨al, cl, rfl, -, -, -⟩ := hl
 obtain ⟨ae, ce, rfl, -, -, -⟩ := he
 obtain ⟨i0, hi, hz0, hz1, hz2⟩ := info_parts info_int64y
 obtain ⟨wB, hwB⟩ : ∃ wB, wB = w.alloc (.cells #[.int .i64 t.states, .int .i64 t.initial, .slice al t.labels.length cl, .slice ae t.edges.length ce] 32) := ⟨_, rfl⟩
 have hb0 : Below w.heap.size w wB := by rw [hwB]; exact (Below.refl _ _).alloc (Nat.le_refl _) _
 have hx0 : Blk wB w.heap.size [.int .i64 t.states, .int .i64 t.initial, .slice al t.labels.length cl, .slice ae t.edges.length ce] 32 := by rw [hwB]; exact Blk.new w _ _
 have HX0 := Lib.hid hx0
 have HB0 := Lib.hid hb0
 have HWB := Lib.hid hwB
 have HC := Lib.hid (Clone_own lo2 sv S wB (hs.below hb0) (by omega))
 obtain ⟨bx, hbx⟩ : ∃ bx, bx = w.heap.size := ⟨_, rfl⟩
 rw [← hbx] at HX0
 have HBX := Lib.hid hbx
 clear hv hin hnd hs hb0 hx0 hwB hbx
 go_enter Tryz.func97, Tryz.ntmps97
 go_wp2_with fail
 rw [← HWB.out, ← HBX.out]
 refine Calls.mono HC.out ?_
 rintro e1 w1 ⟨v1, rfl, ho1, hb1⟩
 obtain ⟨B, hB⟩ : ∃ B, B = wB.heap.size := ⟨_, rfl⟩
 rw [← hB] at ho1
 have hbxB : bx < B := by rw [hB]; exact HX0.out.lt
 have HBB := Lib.hid hB
 have HB1 : Hid (Below B wB w1) := by unfold Hid; rw [hB]; exact hb1
 have HO1 := Lib.hid ho1
 clear HC hb1 ho1 hB
 go_wp2
 go_loopw [5, 6] (fun v i wr => ∃ (k : Nat) (O : List Int), i = .int .i64 k ∧ IntOk t S O k ∧ Below B wB wr ∧ wr.ownsRow B 2 1 v O.length (O.map (Value.int .i64))) (fun _ i _ => 64 - (intOf i).toNat)
 case atStart => exact ⟨0, S, rfl, IntOk.start HND.out, HB1.out, HO1.out⟩
 case round =>
  clear HO1 HB1
  obtain ⟨k, O, rfl, hok, hbl, ho⟩ := hrel
  obtain ⟨wC, rfl⟩ : ∃ wC : World, wC = wr := ⟨_, rfl⟩
  have HOK := Lib.hid hok
  have HBL := Lib.hid hbl
  have HO := Lib.hid ho
  have hO40 := few_states hok.nodup (hok.range HV.out HIN.out) HV.out.st1
  have hkO := hok.upto
  have hsz : B ≤ wC.heap.size := by have := hbl.size; rw [HBB.out]; exact this
  obtain ⟨av, cv, rfl, -, -⟩ := owns_slice ho
  obtain ⟨NO, hNO⟩ : ∃ NO, NO = O.length := ⟨_, rfl⟩
  rw [← hNO] at hO40 hkO HO ⊢
  have HNO := Lib.hid hNO
  clear hok hbl ho hNO
  by_cases hlt : k < NO
  ·have hlO : k < O.length := by rw [← HNO.out]; exact hlt
   have HX := Lib.hid (HX0.out.belowB HBL.out hbxB)
   have hbxw : bx < wC.heap.size := by omega
   have x0 := HX.out.cell 0 rfl
   have x1 := HX.out.cell 1 rfl
   have x2 := HX.out.cell 2 rfl
   have x3 := HX.out.cell 3 rfl
   obtain ⟨g, c, hg, hgw, hcg⟩ : ∃ g c, Value.slice av NO cv = .slice (some ⟨g, 0, none⟩) NO c ∧ g < wC.heap.size ∧ wC.cell? ⟨g, k, none⟩ = some (.int .i64 O[k]) := by
    rcases HO.out.2 with ⟨h, h0⟩ | ⟨g, c, cur, h, -⟩
    ·omega
    ·refine ⟨g, c, h, (HO.out.lt g (by rw [h]; rfl)).2, ?_⟩
     have h1 := HO.out
     rw [h] at h1
     have := cell_numK h1 hlt
     rw [List.getD_eq_getElem?_getD, List.getElem?_eq_getElem hlO] at this
     exact this
   simp only [Value.slice.injEq, true_and] at hg
   obtain ⟨rfl, rfl⟩ := hg
   have HIS := Lib.hid (IntIn.start (F := followL t [O[k]] tauT) HOK.out hlO)
   obtain ⟨q, hq⟩ : ∃ q, q = O[k] := ⟨_, rfl⟩
   rw [← hq] at hcg HIS
   have hW : Below wC.heap.size wC ((wC.alloc (.cells #[.int .i64 q] 2)).drew) := ((Below.refl _ _).alloc (Nat.le_refl _) _).drew
   have hbw : Below w.heap.size w wC := HB0.out.trans (HBL.out.mono (by rw [HBB.out]; exact HB0.out.size))
   have hbw2 := hbw.trans (hW.mono hbw.size)
   have HF : Hid (Calls Tryz.prog 74 #[.agg #[.int .i64 t.states, .int .i64 t.initial, .slice al t.labels.length cl, .slice ae t.edges.length ce], .slice (some ⟨wC.heap.size, 0, none⟩) 1 1, .string ⟨#[116, 97, 117]⟩] ((wC.alloc (.cells #[.int .i64 q] 2)).drew) (MadeNums (followL t [q] tauT) ((wC.alloc (.cells #[.int .i64 q] 2)).drew))) := by
    unfold Hid
    refine follow_any lo wC.heap.size t _ _ _ [q] tauT _ HV.out (HL.out.below hbw2) (HE.out.below hbw2) ?_
    have hlit : (wC.alloc (.cells #[.int .i64 q] 2)).ownsRow wC.heap.size 2 1 (.slice (some ⟨wC.heap.size, 0, none⟩) 1 1) 1 [.int .i64 q] := World.ownsRow_lit (size := 1) wC #[.int .i64 q] 1 (Nat.le_refl _) (by decide) rfl
    exact SliceK.of_owns (enc := encI) (e := 2) encI_len rfl (by rw [flat_encI]; exact hlit.drew)
   have W0 := keeps hW hbxw x0
   have W1 := keeps hW hbxw x1
   have W2 := keeps hW hbxw x2
   have W3 := keeps hW hbxw x3
   have W4 := keeps hW hgw hcg
   have HWW := Lib.hid hW
   have hki : (k : Int) < (NO : Int) := by omega
   clear hlO hq hW hbw hbw2
   go_wp2
   go_region_held3 (fun w' => w'.cell? ⟨bx, 0, none⟩ = some (.int .i64 t.states) ∧ w'.cell? ⟨bx, 1, none⟩ = some (.int .i64 t.initial) ∧ w'.cell? ⟨bx, 2, none⟩ = some (.slice al t.labels.length cl) ∧ w'.cell? ⟨bx, 3, none⟩ = some (.slice ae t.edges.length ce) ∧ w'.cell? ⟨g, k, none⟩ = some (.int .i64 q))
    (first
     | (refine ⟨?_, ?_, ?_, ?_, ?_⟩ <;> assumption)
     | go_keep)
    (first
     | (go_at_call 74; refine Calls.mono HF.out ?_; rintro e w9 ⟨v9, rfl, hb9, ho9⟩; have k0 := keeps hb9 (by simp; omega) W0; have k1 := keeps hb9 (by simp; omega) W1; have k2 := keeps hb9 (by simp; omega) W2; have k3 := keeps hb9 (by simp; omega) W3; have k4 := keeps hb9 (by simp; omega) W4; obtain ⟨a9, c9, rfl, -, -⟩ := owns_slice ho9))
   clear W0 W1 W2 W3 W4 x0 x1 x2 x3 k0 k1 k2 k3 k4 hcg
   obtain ⟨BF, hBF⟩ : ∃ BF, BF = wC.heap.size + 1 := ⟨_, rfl⟩
   have hFs : ((wC.alloc (.cells #[.int .i64 q] 2)).drew).heap.size = BF := by rw [hBF]; simp
   rw [hFs] at ho9
   have hb9' : Below wC.heap.size wC w9 := HWW.out.trans (hb9.mono HWW.out.size)
   have HB9 := Lib.hid (HBL.out.trans (hb9'.mono hsz))
   have HO9 := Lib.hid (owns_below HO.out hb9')
   have hFL := followL_len HV.out.most [q] tauT
   have hFm : ∀ x, behindP t [q] 0 x ↔ x ∈ followL t [q] tauT := fun x => by
    obtain ⟨h0, h1⟩ := tau_first HV.out
    have := (followL_is HV.out [q] h0).mem x
    rw [h1] at this
    exact this.symm
   obtain ⟨F, hF⟩ : ∃ F, F = followL t [q] tauT := ⟨_, rfl⟩
   rw [← hF] at ho9 hFL hFm HIS ⊢
   have HFM := Lib.hid hFm
   obtain ⟨NF, hNF⟩ : ∃ NF, NF = F.length := ⟨_, rfl⟩
   rw [← hNF] at ho9 hFL ⊢
   have HNF := Lib.hid hNF
   have HOF := Lib.hid ho9
   have HAP : Hid ((Value.slice a9 NF c9).ownBlock = none ∨ (Value.slice a9 NF c9).ownBlock ≠ (Value.slice (some ⟨g, 0, none⟩) NO cv).ownBlock) := by
    cases hb : (Value.slice a9 NF c9).ownBlock with
    | none => exact .inl rfl
    | some b =>
     refine .inr fun e => ?_
     have h1 := (ho9.lt b hb).1
     have h2 := Option.some.inj e
     simp [Value.ownBlock] at e
     omega
   have HBF := Lib.hid hBF
   clear hb9 hb9' ho9 hF hFs hFm hNF hBF HF HWW HO HBL
   go_wp2
   go_loopw [5, 25] (fun v v25 wr => ∃ (m : Nat) (O' : List Int), v25 = .int .i64 m ∧ m ≤ NF ∧ IntIn t S O' F q k m ∧ Below B wB wr ∧ wr.ownsRow B 2 1 v O'.length (O'.map (Value.int .i64)) ∧ wr.ownsRow BF 2 1 (.slice a9 NF c9) NF (F.map (Value.int .i64))
    ∧ ((Value.slice a9 NF c9).ownBlock = none ∨ (Value.slice a9 NF c9).ownBlock ≠ v.ownBlock)) (fun _ v25 _ => NF - (intOf v25).toNat)
   case atStart => exact ⟨0, O, rfl, Nat.zero_le _, HIS.out, HB9.out, by rw [← HNO.out]; exact HO9.out, HOF.out, HAP.out⟩
   case round =>
    clear HB9 HO9 HIS HOF HAP
    obtain ⟨m, O2, rfl, hm, hin, hbl, ho, hof, hap⟩ := hrel
    have HIN2 := Lib.hid hin
    have HBL := Lib.hid hbl
    have HO := Lib.hid ho
    have HOF := Lib.hid hof
    have HAP := Lib.hid hap
    have hO2 := few_states hin.ok.nodup (hin.ok.range HV.out HIN.out) HV.out.st1
    have hsz2 : B ≤ wr.heap.size := by have := hbl.size; rw [HBB.out]; exact this
    clear hin hbl hap
    by_cases hmF : m < NF
    ·have hmf : m < F.length := by rw [← HNF.out]; exact hmF
     obtain ⟨g9, e9, hg9, hc9⟩ : ∃ g9, a9 = some ⟨g9, 0, none⟩ ∧ g9 < wr.heap.size ∧ wr.cell? ⟨g9, m, none⟩ = some (.int .i64 F[m]) := by
      rcases hof.2 with ⟨h, h0⟩ | ⟨g9, c, cur, h, -⟩
      ·omega
      ·simp only [Value.slice.injEq, true_and] at h
       obtain ⟨rfl, rfl⟩ := h
       refine ⟨g9, rfl, (hof.lt g9 rfl).2, ?_⟩
       have := cell_numK hof hmF
       rw [List.getD_eq_getElem?_getD, List.getElem?_eq_getElem hmf] at this
       exact this
     subst e9
     obtain ⟨x, hx⟩ : ∃ x, x = F[m] := ⟨_, rfl⟩
     rw [← hx] at hc9
     have HS2 := Lib.hid (SliceK.of_owns (enc := encI) (xs := O2) encI_len rfl (by rw [flat_encI]; exact ho))
     have HCT := Lib.hid (Contains_ints B u5 x O2 wr HS2.out)
     have HX := Lib.hid hx
     clear ho hof hx
     cases hc : (O2.any fun y => y == x)
     ·rw [hc] at HCT
      have HNX : Hid (F[m] ∉ O2) := by
       unfold Hid
       rw [← HX.out]
       intro h
       rw [List.any_eq_false] at hc
       exact hc x h (by simp)
      clear hc
      go_wp2_with fail
      refine Calls.mono HCT.out ?_
      rintro e2 w2 ⟨rfl, rfl⟩
      obtain ⟨NO2, hNO2⟩ : ∃ NO2, NO2 = O2.length := ⟨_, rfl⟩
      rw [← hNO2] at HO hO2
      have HNO2 := Lib.hid hNO2
      clear hNO2 HS2
      go_wp2_with (at_builtin; refine wpList_append_own_at _ rfl _ _ 69 rfl B 2 i0 (.int .i64 0) 1 8 Tryz.underlying69 hi hz0 hz1 hz2 rfl (by decide) _ _ _ rfl (HO.out.alloc _) ⟨wr.heap.size, 0, none⟩ 1 1 [.int .i64 x] rfl rfl ?c1 ?c2 ?c3 ?c4 ?c5 ?_)
      case c1 => exact cell_one_new _ _ _
      case c2 => intro u hu; simp at hu; subst hu; rfl
      case c3 => first | omega | (simp [maxLen]; omega)
      case c4 => first | omega | (simp; omega)
      case c5 => first | omega | (simp; omega)
      intro v5 w5 ho5 hg5 _ hob5
      have hal : Below wr.heap.size wr (wr.alloc (.cells #[.int .i64 x] 2)) := (Below.refl _ _).alloc (Nat.le_refl _) _
      have HO5 : Hid (w5.ownsRow B 2 1 v5 (O2 ++ [F[m]]).length ((O2 ++ [F[m]]).map (Value.int .i64))) := by
       unfold Hid
       rw [List.length_append, List.map_append, ← HNO2.out, ← HX.out]
       exact ho5
      have HOF5 := Lib.hid ((owns_below HOF.out hal).kept hg5 HAP.out)
      have HAP5 : Hid ((Value.slice (some ⟨g9, 0, none⟩) NF c9).ownBlock = none ∨ (Value.slice (some ⟨g9, 0, none⟩) NF c9).ownBlock ≠ v5.ownBlock) := by
       rcases hob5 with h | h
       ·rw [h]; exact HAP.out
       ·refine .inr ?_
        rw [h]
        intro e
        have h9 : g9 = wr.heap.size + 1 := Option.some.inj e
        omega
      have HB5 : Hid (Below B wB w5) := (HBL.out.alloc hsz2 _).grown hg5 (by simp; omega) (fun b e => (HO.out.lt b e).1)
      clear ho5 hg5 hob5 hal
      go_wp2
      go_roundw
      case rel => exact ⟨m + 1, O2 ++ [F[m]], by go_num, by omega, HIN2.out.new (fun y hy => (HFM.out y).2 hy) hmf HNX.out, HB5.out, HO5.out, HOF5.out, HAP5.out⟩
      case measure => simp [intOf]; omega
     ·rw [hc] at HCT
      have HIX : Hid (F[m] ∈ O2) := by
       unfold Hid
       rw [← HX.out]
       rw [List.any_eq_true] at hc
       obtain ⟨y, hy, h⟩ := hc
       rw [beq_iff_eq] at h
       rw [← h]; exact hy
      clear hc
      go_wp2_with fail
      refine Calls.mono HCT.out ?_
      rintro e2 w2 ⟨rfl, rfl⟩
      clear HS2
      go_wp2
      go_roundw
      case rel => exact ⟨m + 1, O2, by go_num, by omega, HIN2.out.old hmf HIX.out, HBL.out, HO.out, HOF.out, HAP.out⟩
      case measure => simp [intOf]; omega
    ·have hmF2 : NF = m := by omega
     subst hmF2
     have HK := Lib.hid (show IntOk t S O2 (k + 1) from IntIn.done (F := F) (q := q) (by rw [← HNF.out]; exact HIN2.out) (fun x hx => (HFM.out x).1 hx))
     clear ho hof
     go_wp2
     go_roundw
     case rel => exact ⟨k + 1, O2, by go_num, HK.out, HBL.out, HO.out⟩
     case measure => simp [intOf]; omega
  ·have hk2 : NO = k := by omega
   subst hk2
   have hset : (O.mergeSort fun x y => decide (x ≤ y)) = setL t.states (clos t fun y => y ∈ S) := by
    refine ((sort_nodup_is O HOK.out.nodup).congr fun x => ?_).unique (closL_is HV.out HIN.out)
    exact HOK.out.done HNO.out x
   have hls : (setL t.states (clos t fun y => y ∈ S)).length = NO := by rw [← hset, List.length_mergeSort, HNO.out]
   have HS := Lib.hid (Sort_own B (.slice av NO cv) O wC (by rw [← HNO.out]; exact HO.out) (by rw [← HNO.out]; omega))
   rw [hset] at HS
   have HLS := Lib.hid hls
   clear hset hls
   go_wp2_with fail
   refine Calls.mono HS.out ?_
   rintro e2 w2 ⟨rfl, ho2, hg2⟩
   have HB2 := Lib.hid (HBL.out.grown hg2 hsz (fun b e => (HO.out.lt b e).1))
   have HO2 : Hid (w2.ownsRow B 2 1 (.slice av NO cv) (setL t.states (clos t fun y => y ∈ S)).length ((setL t.states (clos t fun y => y ∈ S)).map (Value.int .i64))) := by
    unfold Hid
    rw [HLS.out]
    rw [← HNO.out] at ho2
    exact ho2
   clear ho2 hg2
   go_wp2
   go_ret
   exact ⟨_, rfl, HB0.out.trans (HB2.out.mono (by rw [HBB.out]; exact HB0.out.size)), own_lower HO2.out (by rw [HBB.out]; exact HB0.out.size)⟩

end Go.Proofs.YtjoacldbgnphkaaGreatDoor

namespace Go.Proofs.YtjoacldbgnphkaaGreatDoor
open Go Go.RowKit


noncomputable section
/-- A weak answer: internal edges, an edge of the label (for tau none), internal edges. -/
def wkP (b : Lts) (y : Int) (l : ByteArray) (w : Int) : Prop :=
 (l.toList = tauB ∧ clos b (fun x => x = y) w) ∨ (l.toList ≠ tauB ∧ ∃ e ∈ b.edges, clos b (fun x => x = y) e.src ∧ (labAt b e).toList = l.toList ∧ clos b (fun x => x = e.dst) w)
def wkB (b : Lts) (y : Int) (l : ByteArray) (w : Int) : Bool := @decide (wkP b y l w) (Classical.propDecidable _)
theorem wkB_iff {b : Lts} {y : Int} {l : ByteArray} {w : Int} : wkB b y l w = true ↔ wkP b y l w := by
 unfold wkB
 exact ⟨fun h => @of_decide_eq_true _ (Classical.propDecidable _) h, fun h => @decide_eq_true _ (Classical.propDecidable _) h⟩
/-- What may answer an edge. -/
def tgtK (κ : Int) (b : Lts) (y : Int) (l : ByteArray) (w : Int) : Bool := if κ = 2 then wkB b y l w else tgtG b y l w
end
theorem wkP_in {b : Lts} (hv : Valid b) {y : Int} (hy : 0 ≤ y ∧ y < b.states) {l : ByteArray} {w : Int} (h : wkP b y l w) : 0 ≤ w ∧ w < b.states := by
 rcases h with ⟨-, h⟩ | ⟨-, e, he, -, -, h⟩
 ·exact clos.inside hv (fun x hx => by subst hx; exact hy) w h
 ·obtain ⟨i, hi, rfl⟩ := List.mem_iff_getElem.1 he
  exact clos.inside hv (fun x hx => by subst hx; exact ⟨(hv.edge i hi).d0, (hv.edge i hi).d1⟩) w h
end Go.Proofs.YtjoacldbgnphkaaGreatDoor
