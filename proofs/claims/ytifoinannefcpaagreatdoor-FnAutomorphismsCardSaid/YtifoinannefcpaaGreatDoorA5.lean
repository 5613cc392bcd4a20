/-
  The two comparisons that the implementation sorts by: labels (tau first), edges.
  What the implementation's functions on numbers' texts compute: strconv by the shelf's contracts.
  The library's Sort, Compact and Clone at lists of numbers of the call's own.
  The library's sorts as lts calls them: labels sorted and made one, edges that stand in order already.
  Regions that draw their order, whose operations are quiet in a class of worlds, but for a tail in one forced order.
  The library's sort and Compact at edges that stand in strictly ascending order: nothing turns.
  Plain notions for a row that is written over in place: what is kept so far, what is still to be looked at.
  A rising list of edges with one edge more: plain, and how it lies in place.
-/
import Derived.Test.YtifoinannefcpaaGreatDoorA3
import Derived.Test.YtifoinannefcpaaGreatDoorA4
import Derived.Lib.Bytealg
import Derived.Sort.Grow
import Derived.Shelf.SlSortCmp.NoneTotal
import Derived.WalkSmall
import Derived.Lib.AppendIntMem
import Derived.Sort.OwnSortedInts
import Derived.Lib.OwnBridge
import Derived.Sort.OwnSorted
import Derived.BigQuiet
import Derived.Test.YtifoinannefcpaaGreatDoorA1
import Derived.StillTail
import Derived.Laws.StructEq
import Derived.Lib.SliceRun
import Derived.Lib.LazyBuf
namespace Go.Proofs.YtifoinannefcpaaGreatDoor
open Go Go.RowKit


/-- What a call that turns nothing leaves: draws, and blocks behind. -/
theorem grow_of_below {w w' : World} (hb : Below w.heap.size w w') (hd : w.drawn ≤ w'.drawn) : ∃ q os, w' = Go.Sort.grow (w.drewN q) os := by
 refine ⟨w'.drawn - w.drawn, w'.heap.extract w.heap.size w'.heap.size, ?_⟩
 have hh : w'.heap = w.heap ++ w'.heap.extract w.heap.size w'.heap.size := by
  apply Array.ext_getElem?
  intro i
  by_cases hi : i < w.heap.size
  ·rw [hb.block i hi, Array.getElem?_append_left hi]
  ·rw [Array.getElem?_append_right (by omega), Array.getElem?_extract]
   have := hb.size
   by_cases h2 : i < w'.heap.size
   ·rw [if_pos (by omega)]; congr 1; omega
   ·rw [if_neg (by omega), Array.getElem?_eq_none (by omega)]
 obtain ⟨h1, h2, h3⟩ := (⟨hb.os, hb.tape, hb.output⟩ : w'.os = w.os ∧ w'.tape = w.tape ∧ w'.output = w.output)
 cases w; cases w'
 simp only at h1 h2 h3 hh hd
 subst h1 h2 h3
 simp only [Go.Sort.grow, World.drewN, World.mk.injEq, true_and, and_true]
 exact ⟨hh, by omega⟩

set_option maxRecDepth 100000 in
theorem compareEdges_more (a b : Edge) (w : World) : Calls Tryz.prog 43 #[.agg #[.int .i64 a.src, .int .i64 a.lab, .int .i64 a.dst], .agg #[.int .i64 b.src, .int .i64 b.lab, .int .i64 b.dst]] w fun e w' => e = .returned (.int .i64 (cmpE a b)) ∧ Below w.heap.size w w' ∧ w.drawn ≤ w'.drawn := by
 obtain ⟨W, hW⟩ : ∃ W, W = (w.alloc (.cells #[.int .i64 a.src, .int .i64 a.lab, .int .i64 a.dst] 62)).alloc (.cells #[.int .i64 b.src, .int .i64 b.lab, .int .i64 b.dst] 62) := ⟨_, rfl⟩
 have HB : Hid (Below w.heap.size w W) := by
  unfold Hid
  rw [hW]
  exact ((Below.refl _ _).alloc (Nat.le_refl _) _).alloc (by simp) _
 have HDR : Hid (W.drawn = w.drawn) := by unfold Hid; rw [hW]; rfl
 have a0 : W.cell? ⟨w.heap.size, 0, none⟩ = some (.int .i64 a.src) := by rw [hW]; simp
 have a1 : W.cell? ⟨w.heap.size, 1, none⟩ = some (.int .i64 a.lab) := by rw [hW]; simp
 have a2 : W.cell? ⟨w.heap.size, 2, none⟩ = some (.int .i64 a.dst) := by rw [hW]; simp
 have b0 : W.cell? ⟨w.heap.size + 1, 0, none⟩ = some (.int .i64 b.src) := by rw [hW]; simp
 have b1 : W.cell? ⟨w.heap.size + 1, 1, none⟩ = some (.int .i64 b.lab) := by rw [hW]; simp
 have b2 : W.cell? ⟨w.heap.size + 1, 2, none⟩ = some (.int .i64 b.dst) := by rw [hW]; simp
 go_enter Tryz.func43, Tryz.ntmps43
 go_wp2
 rw [← hW]
 clear hW
 go_still_tail 15, (by kernel_rfl)
 still_call (still_same (Compare_any _ _ _))
 repeat still_step
 still_call (still_same (Compare_any _ _ _))
 repeat still_step
 still_call (still_same (Compare_any _ _ _))
 repeat still_step
 refine wpStill_nil ?_
 change wpList _ _ _ _ _ W.drew
 obtain ⟨W2, hW2⟩ : ∃ W2, W2 = W.drew := ⟨_, rfl⟩
 rw [← hW2]
 have HB2 : Hid (Below w.heap.size w W2) := by
  unfold Hid
  rw [hW2]
  exact HB.out.drew
 have HD2 : Hid (w.drawn ≤ W2.drawn) := by
  unfold Hid
  rw [hW2]
  show w.drawn ≤ W.drawn + 1
  have := HDR.out
  omega
 clear hW2 a0 a1 a2 b0 b1 b2
 have HS : Hid (SliceK 1 encI 0 (W2.alloc (.cells #[.int .i64 (cmpI a.src b.src), .int .i64 (cmpI a.lab b.lab), .int .i64 (cmpI a.dst b.dst)] 3)) (.slice (some ⟨W2.heap.size, 0, none⟩) 3 3) [cmpI a.src b.src, cmpI a.lab b.lab, cmpI a.dst b.dst]) := by
  have := World.ownsRow_lit (base := 0) (e := 3) (size := 1) W2 #[.int .i64 (cmpI a.src b.src), .int .i64 (cmpI a.lab b.lab), .int .i64 (cmpI a.dst b.dst)] 3 (Nat.zero_le _) (by decide) (by simp)
  exact SliceK.of_owns (e := 3) encI_len rfl (by rw [flat_encI]; simpa using this)
 have HB3 : Hid (Below w.heap.size w (W2.alloc (.cells #[.int .i64 (cmpI a.src b.src), .int .i64 (cmpI a.lab b.lab), .int .i64 (cmpI a.dst b.dst)] 3))) := HB2.out.alloc HB2.out.size _
 have HD3 : Hid (w.drawn ≤ (W2.alloc (.cells #[.int .i64 (cmpI a.src b.src), .int .i64 (cmpI a.lab b.lab), .int .i64 (cmpI a.dst b.dst)] 3)).drawn) := HD2.out
 go_wp2_with fail
 refine (Or_any 0 _ _ _ HS.out).mono ?_
 rintro e w' ⟨rfl, rfl⟩
 go_wp2_with fail
 go_ret
 exact ⟨rfl, HB3.out, HD3.out⟩

theorem swo_of_total {α : Type} {lt : α → α → Bool} (hi : ∀ x, lt x x = false) (ht : ∀ x y z, lt x y = true → lt y z = true → lt x z = true) (htri : ∀ x y, lt x y = false → lt y x = false → x = y) : Go.Sort.SWO lt where
 irrefl := hi
 trans := ht
 ntrans x y z h1 h2 := by
  cases h : lt x z with
  | false => rfl
  | true =>
   cases h3 : lt y x with
   | true => rw [ht y x z h3 h] at h2; cases h2
   | false =>
    have e := htri x y h1 h3
    subst e
    rw [h] at h2
    cases h2

/-- The strict order of labels: tau first. -/
def lessL (a b : List UInt8) : Bool := !(a == b) && (a == tauB || (!(b == tauB) && Op.bytesLess a b))
theorem lessL_iff (a b : List UInt8) : lessL a b = true ↔ a ≠ b ∧ (a = tauB ∨ (b ≠ tauB ∧ a < b)) := by
 unfold lessL
 rw [less_lt]
 simp
theorem lessL_irrefl (a : List UInt8) : lessL a a = false := by unfold lessL; simp
theorem lessL_trans (a b c : List UInt8) (h : lessL a b = true) (k : lessL b c = true) : lessL a c = true := by
 rw [lessL_iff] at *
 obtain ⟨h1, h2⟩ := h
 obtain ⟨k1, k2⟩ := k
 rcases h2 with h2 | ⟨h2, h3⟩
 ·refine ⟨fun e => ?_, .inl h2⟩
  rcases k2 with k2 | ⟨k2, k3⟩
  ·exact h1 (by rw [h2, k2])
  ·exact k2 (by rw [← e, h2])
 ·rcases k2 with k2 | ⟨k2, k3⟩
  ·exact absurd k2 h2
  ·exact ⟨fun e => List.lt_irrefl a (by rw [e] at h3 ⊢; exact List.lt_trans h3 k3), .inr ⟨k2, List.lt_trans h3 k3⟩⟩
theorem lessL_tri (a b : List UInt8) (h : lessL a b = false) (k : lessL b a = false) : a = b := by
 by_cases e : a = b
 ·exact e
 ·exfalso
  have h1 := fun x => (Bool.eq_false_iff.1 h) ((lessL_iff a b).2 x)
  have k1 := fun x => (Bool.eq_false_iff.1 k) ((lessL_iff b a).2 x)
  by_cases ta : a = tauB
  ·exact h1 ⟨e, .inl ta⟩
  ·by_cases tb : b = tauB
   ·exact k1 ⟨fun x => e x.symm, .inl tb⟩
   ·have h2 : ¬ a < b := fun x => h1 ⟨e, .inr ⟨tb, x⟩⟩
    have h3 : ¬ b < a := fun x => k1 ⟨fun x => e x.symm, .inr ⟨ta, x⟩⟩
    exact e (List.le_antisymm (List.not_lt.1 h3) (List.not_lt.1 h2))
theorem ltOf_cmpE : ltOf cmpE = edgeLess := by
 funext a b
 unfold ltOf
 have h := cmpE_less a b
 cases h2 : edgeLess a b with
 | true => rw [h2] at h; simp only [Bool.not_true, decide_eq_false_iff_not] at h; rw [decide_eq_true_eq]; omega
 | false => rw [h2] at h; simp only [Bool.not_false, decide_eq_true_eq] at h; rw [decide_eq_false_iff_not]; omega
theorem edgeLess_iff (a b : Edge) : edgeLess a b = true ↔ (a.src < b.src ∨ (a.src = b.src ∧ (a.lab < b.lab ∨ (a.lab = b.lab ∧ a.dst < b.dst)))) := by
 unfold edgeLess
 split
 ·rw [decide_eq_true_eq]; omega
 ·split
  ·rw [decide_eq_true_eq]; omega
  ·rw [decide_eq_true_eq]; omega
theorem edgeLess_irrefl (a : Edge) : edgeLess a a = false := by rw [Bool.eq_false_iff]; intro h; rw [edgeLess_iff] at h; omega
theorem edgeLess_trans (a b c : Edge) (h : edgeLess a b = true) (k : edgeLess b c = true) : edgeLess a c = true := by rw [edgeLess_iff] at *; omega
theorem edgeLess_tri (a b : Edge) (h : edgeLess a b = false) (k : edgeLess b a = false) : a = b := by
 rw [Bool.eq_false_iff] at h k
 have h1 := mt (edgeLess_iff a b).2 h
 have k1 := mt (edgeLess_iff b a).2 k
 have e1 : a.src = b.src := by omega
 have e2 : a.lab = b.lab := by omega
 have e3 : a.dst = b.dst := by omega
 cases a; cases b
 simp only at e1 e2 e3
 subst e1 e2 e3
 rfl
theorem swoE : Go.Sort.SWO (ltOf cmpE) := by rw [ltOf_cmpE]; exact swo_of_total edgeLess_irrefl edgeLess_trans edgeLess_tri

end Go.Proofs.YtifoinannefcpaaGreatDoor

namespace Go.Proofs.YtifoinannefcpaaGreatDoor
open Go Go.RowKit

/-- What the library's own variables hold. -/
structure Glob (w : World) : Prop where
 max : ∃ m, w.cell? ⟨0, 0, none⟩ = some (.int .i64 m)
 syn : ∃ ev, w.cell? ⟨1, 0, none⟩ = some ev ∧ (ev = .nilIface ∨ ∃ te pe, ev = .iface te pe)
 rng : ∃ ev, w.cell? ⟨2, 0, none⟩ = some ev ∧ (ev = .nilIface ∨ ∃ te pe, ev = .iface te pe)
 tab : Lib.TabIs Tryz.prog w "internal/strconv.uint64pow10" .u64 Lib.pow10Tab

theorem Glob.below {w w' : World} (h : Glob w) (hb : Below w.heap.size w w') : Glob w' := by
 obtain ⟨⟨m, h1⟩, ⟨e1, h2, h2'⟩, ⟨e2, h3, h3'⟩, h4⟩ := h
 have hg : Tryz.prog.globalNamed "internal/strconv.uint64pow10" = some 5 := by kernel_rfl
 have hlt : 5 < w.heap.size := by
  have h5 := h4
  unfold Lib.TabIs World.var? at h5
  rw [hg] at h5
  simp only [Option.bind_some] at h5
  rcases Nat.lt_or_ge 5 w.heap.size with h | h
  ·exact h
  ·rw [Array.getElem?_eq_none h] at h5; simp at h5
 refine ⟨⟨m, keeps hb (World.block_lt_of_cell? w _ h1) h1⟩, ⟨e1, keeps hb (World.block_lt_of_cell? w _ h2) h2, h2'⟩, ⟨e2, keeps hb (World.block_lt_of_cell? w _ h3) h3, h3'⟩, ?_⟩
 exact var?_below hb hg hlt h4

theorem Decimal_any (n : Int) (w : World) (h0 : -9223372036854775808 ≤ n) (h1 : n ≤ 9223372036854775807) (g : Glob w) :
  Calls Tryz.prog 126 #[.int .i64 n] w fun e w' => e = .returned (.string ⟨(Lib.itoa n).toArray⟩) ∧ Below w.heap.size w w' := by
 have G := Lib.hid g.tab
 have H0 := Lib.hid h0
 have H1 := Lib.hid h1
 clear g h0 h1
 go_enter Tryz.func126, Tryz.ntmps126
 go_wp2_with fail
 refine (Tryz.strconv_FormatInt_10 n H0.out H1.out _ G.out).mono ?_
 rintro e w' ⟨rfl, k, os, rfl⟩
 have HB : Hid (Below w.heap.size w (Go.Sort.grow (w.drewN k) os)) := Lib.below_grow _ w (Nat.le_refl _) k os
 go_wp2_with fail
 go_ret
 exact ⟨rfl, HB.out⟩

/-- What ReadDecimal reads. -/
def readDec (l : List UInt8) : Option Int :=
 if 18 < (Lib.trimPrefix l [45]).length then none
 else match Lib.parseIntB 64 l with
  | .ok n => if Lib.itoa n = l then some n else none
  | _ => none

/-- ReadDecimal's answer. -/
def RetDec (l : List UInt8) (w : World) (e : Ending) (w' : World) : Prop := e = .returned (.tuple #[.int .i64 ((readDec l).getD 0), .bool (readDec l).isSome]) ∧ Below w.heap.size w w'

theorem ReadDecimal_any (s : ByteArray) (w : World) (hs : s.size ≤ 1073741824) (g : Glob w) : Calls Tryz.prog 101 #[.string s] w (RetDec s.data.toList w) := by
 have G := Lib.hid g
 clear g
 by_cases h18 : 18 < (Lib.trimPrefix s.data.toList [45]).length
 ·have HF : Hid (readDec s.data.toList = none) := by unfold Hid readDec; rw [if_pos h18]
  have HL := Lib.hid h18
  go_enter Tryz.func101, Tryz.ntmps101
  go_wp2_with fail
  refine (Tryz.strings_TrimPrefix s ⟨#[45]⟩ _).mono ?_
  rintro e w' ⟨rfl, rfl⟩
  have h18' : 18 < ((Lib.trimPrefix s.data.toList [45]).length : Int) := by omega
  clear h18
  go_wp2_with fail
  go_ret2
  unfold RetDec
  rw [HF.out]
  exact ⟨rfl, Below.refl _ _⟩
 ·have h18' : ¬ 18 < ((Lib.trimPrefix s.data.toList [45]).length : Int) := by omega
  have HR : Hid (readDec s.data.toList = match Lib.parseIntB 64 s.data.toList with
   | .ok n => if Lib.itoa n = s.data.toList then some n else none
   | _ => none) := by unfold Hid readDec; rw [if_neg h18]
  clear h18
  rcases hp : Lib.parseIntB 64 s.data.toList with v | _ | _
  ·have HP := Lib.hid hp
   have hbd := Lib.parseIntB_bounds hp
   have HB1 : Hid (-9223372036854775808 ≤ v) := by have := hbd.1; unfold Hid; simpa using this
   have HB2 : Hid (v ≤ 9223372036854775807) := by have := hbd.2; unfold Hid; simp at this; omega
   rw [hp] at HR
   clear hp hbd
   go_enter Tryz.func101, Tryz.ntmps101
   go_wp2_with fail
   refine (Tryz.strings_TrimPrefix s ⟨#[45]⟩ _).mono ?_
   rintro e w' ⟨rfl, rfl⟩
   go_wp2_with fail
   refine (Tryz.strconv_ParseInt_10_at64_ok s (by omega) v HP.out _).mono ?_
   rintro e w1 ⟨rfl, hw1⟩
   have HB3 : Hid (Below w'.heap.size w' w1) := by
    rcases hw1 with rfl | ⟨t, rfl⟩
    ·exact Below.refl _ _
    ·exact Lib.bytesWorld_below _ _ _
   clear hw1
   go_wp2_with fail
   refine (Decimal_any v _ HB1.out HB2.out (G.out.below HB3.out)).mono ?_
   rintro e w2 ⟨rfl, hb2⟩
   have HB4 := Lib.hid hb2
   clear hb2
   by_cases hq : Lib.itoa v = s.data.toList
   ·have HF : Hid (readDec s.data.toList = some v) := by unfold Hid; rw [HR.out, if_pos hq]
    go_wp2_with fail
    go_ret2
    unfold RetDec
    rw [HF.out]
    exact ⟨rfl, HB3.out.trans (HB4.out.mono HB3.out.size)⟩
   ·have HF : Hid (readDec s.data.toList = none) := by unfold Hid; rw [HR.out, if_neg hq]
    have hq' : (!Lib.itoa v == s.toList) = true := by rw [Lib.toList_data]; simpa using hq
    go_wp2_with fail
    go_ret2
    unfold RetDec
    rw [HF.out]
    exact ⟨rfl, HB3.out.trans (HB4.out.mono HB3.out.size)⟩
  ·have HP := Lib.hid hp
   rw [hp] at HR
   clear hp
   obtain ⟨ev, hv, hev⟩ := G.out.syn
   have HV := Lib.hid hv
   have HE := Lib.hid hev
   clear hv hev
   go_enter Tryz.func101, Tryz.ntmps101
   go_wp2_with fail
   refine (Tryz.strings_TrimPrefix s ⟨#[45]⟩ _).mono ?_
   rintro e w' ⟨rfl, rfl⟩
   go_wp2_with fail
   refine (Any.strconv_ParseInt_10_at64_syntax Tryz.laysC174 s (by omega) HP.out ev _ HV.out HE.out).mono ?_
   rintro e w1 ⟨N, rfl, -, -, hb⟩
   have HB3 := Lib.hid hb
   clear hb
   go_wp2_with fail
   go_ret2
   unfold RetDec
   rw [HR.out]
   exact ⟨rfl, HB3.out⟩
  ·have HP := Lib.hid hp
   rw [hp] at HR
   clear hp
   obtain ⟨ev, hv, hev⟩ := G.out.rng
   have HV := Lib.hid hv
   have HE := Lib.hid hev
   clear hv hev
   go_enter Tryz.func101, Tryz.ntmps101
   go_wp2_with fail
   refine (Tryz.strings_TrimPrefix s ⟨#[45]⟩ _).mono ?_
   rintro e w' ⟨rfl, rfl⟩
   go_wp2_with fail
   refine (Tryz.strconv_ParseInt_10_at64_range s (by omega) HP.out ev _ HV.out HE.out).mono ?_
   rintro e w1 ⟨N, rfl, -, -, hb⟩
   have HB3 := Lib.hid hb
   clear hb
   go_wp2_with fail
   go_ret2
   unfold RetDec
   rw [HR.out]
   exact ⟨rfl, HB3.out⟩

end Go.Proofs.YtifoinannefcpaaGreatDoor

namespace Go.Proofs.YtifoinannefcpaaGreatDoor
open Go Go.RowKit

theorem Sort_own (base : Nat) (v : Value) (xs : List Int) (w : World) (ho : w.ownsRow base 2 1 v xs.length (xs.map (Value.int .i64))) (hz : xs.length ≤ 1048576) :
  Calls Tryz.prog 69 #[v] w fun e w' => e = .returned (.tuple #[]) ∧ w'.ownsRow base 2 1 v xs.length ((xs.mergeSort fun x y => decide (x ≤ y)).map (Value.int .i64)) ∧ w.grownBy w' v.ownBlock := by
 rcases ho.2 with ⟨rfl, h0⟩ | ⟨g, cap, cur, rfl, hb, hg, hn, hm, hs, ht⟩
 ·have hx : xs = [] := List.eq_nil_of_length_eq_zero h0
  subst hx
  refine (Tryz.slices_Sort_int_none none 0 w).mono ?_
  rintro e w' ⟨rfl, rfl⟩
  exact ⟨rfl, by simpa using ho, grown_refl _ _⟩
 ·rw [Nat.mul_one] at ht
  refine (Tryz.slices_Sort_int g 0 cap xs w (holds_of_blockI hg ht) (Array.getElem?_eq_some_iff.1 hg).1 (by omega)).mono ?_
  rintro e w' ⟨rfl, n, os, rfl⟩
  exact ⟨rfl, ownsRow_sortedI (List.length_mergeSort xs) hb hg hn hm hs, grownBy_sortedI _⟩

theorem grownBy_put {α : Type} [Inhabited α] {enc : α → Value} {w : World} {g q : Nat} (d : Array α) : w.grownBy (Go.Sort.putRow enc (Go.Sort.ahead w q) g 0 d) (some g) := by
 refine ⟨rfl, rfl, rfl, by simp [Go.Sort.putRow, Go.Sort.mapBlock, Go.Sort.ahead], fun k hk hne => ?_⟩
 have : g ≠ k := fun e => hne (by rw [e])
 simp [Go.Sort.putRow, Go.Sort.mapBlock, Go.Sort.ahead, Array.getElem?_modify, this]

theorem Compact_own (base : Nat) (v : Value) (xs : List Int) (w : World) (ho : w.ownsRow base 2 1 v xs.length (xs.map (Value.int .i64))) :
  Calls Tryz.prog 70 #[v] w fun e w' => ∃ v', e = .returned v' ∧ w'.ownsRow base 2 1 v' (Lib.compact xs).length ((Lib.compact xs).map (Value.int .i64)) ∧ w.grownBy w' v.ownBlock := by
 have hle := Lib.compact_length_le xs
 rcases ho.2 with ⟨rfl, h0⟩ | ⟨g, cap, cur, rfl, hb, hg, hn, hm, hs, ht⟩
 ·have hx : xs = [] := List.eq_nil_of_length_eq_zero h0
  subst hx
  refine (Tryz.slices_Compact_int_empty none 0 w).mono ?_
  rintro e w' ⟨rfl, rfl⟩
  exact ⟨_, rfl, by simpa [Lib.compact, Lib.compactUpTo] using ho, grown_refl _ _⟩
 ·rw [Nat.mul_one] at ht
  have hm2 : cap ≤ 9223372036854775807 := by simpa [maxLen] using hm
  refine (Tryz.slices_Compact_int g 0 cap xs w (holds_of_blockI hg ht) (by omega) hn).mono ?_
  rintro e w' ⟨rfl, q, rfl⟩
  have hc := Lib.ownsRow_putRow (q := q) (k := (Lib.compact xs).length) (ys := Lib.compact xs ++ List.replicate (xs.length - (Lib.compact xs).length) 0) ho (by simp; omega) hle
  rw [List.take_left] at hc
  exact ⟨_, rfl, hc, grownBy_put _⟩

theorem Clone_own (lo : Nat) (v : Value) (xs : List Int) (w : World) (hv : SliceK 1 encI lo w v xs) (hz : xs.length ≤ 1048576) :
  Calls Tryz.prog 46 #[v] w fun e w' => ∃ v', e = .returned v' ∧ w'.ownsRow w.heap.size 2 1 v' xs.length (xs.map (Value.int .i64)) ∧ Below w.heap.size w w' := by
 obtain ⟨a, c, rfl, hn, hc, hrow⟩ := hv
 cases a with
 | none =>
  have h0 : xs.length = 0 := by
   rcases hrow with h | ⟨b, o, h, -⟩
   ·exact h
   ·cases h
  have hx : xs = [] := List.eq_nil_of_length_eq_zero h0
  subst hx
  refine (Tryz.slices_Clone_int_nil _ _ w).mono ?_
  rintro e w' ⟨rfl, rfl⟩
  exact ⟨_, rfl, World.ownsRow_nil _ _ _ _, Below.refl _ _⟩
 | some a =>
  rcases hrow with h0 | ⟨b, o, h, -, hb, hcell⟩
  ·have hx : xs = [] := List.eq_nil_of_length_eq_zero h0
   subst hx
   refine (Tryz.slices_Clone_int_zero a c w).mono ?_
   rintro e w' ⟨v', rfl, ho, -, hb⟩
   exact ⟨v', rfl, ho, hb⟩
  ·cases h
   refine (Tryz.slices_Clone_int b o xs.length c xs w (Nat.le_refl _) (by omega) (fun j hj => ?_)).mono ?_
   ·have := hcell j hj 0 (by omega)
    rw [List.getD_eq_getElem?_getD, List.getElem?_eq_getElem hj]
    simpa [encI] using this
   ·rintro e w' ⟨v', rfl, ho, -, hb2⟩
    rw [List.take_length] at ho
    exact ⟨v', rfl, ho, hb2⟩

end Go.Proofs.YtifoinannefcpaaGreatDoor

namespace Go.Proofs.YtifoinannefcpaaGreatDoor
open Go Go.RowKit


def mkB (l : List UInt8) : ByteArray := ⟨l.toArray⟩
theorem mkB_data (b : ByteArray) : mkB b.data.toList = b := by cases b; simp [mkB]
def labSet (ls : List ByteArray) : List ByteArray := (Lib.compact ((ls.map (·.data.toList)).mergeSort fun x y => !lessL y x)).map mkB
theorem labSet_eq {ls m : List ByteArray} (hm : (m.map (·.data.toList)).Pairwise fun a b => lessL a b = true) (hmem : ∀ x, x ∈ ls ↔ x ∈ m) : labSet ls = m := by
 have hs : ((ls.map (·.data.toList)).mergeSort fun x y => !lessL y x).Pairwise fun a b => a = b ∨ lessL a b = true := by
  have h1 := List.pairwise_mergeSort (le := fun x y : List UInt8 => !lessL y x) (fun a b c h1 h2 => by
   simp only [Bool.not_eq_true'] at *
   have := (swo_of_total lessL_irrefl lessL_trans lessL_tri).ntrans c b a h2 h1
   exact this) (fun a b => by
   cases h : lessL b a with
   | false => simp
   | true =>
    cases h2 : lessL a b with
    | false => simp
    | true => have := lessL_trans a b a h2 h; rw [lessL_irrefl] at this; cases this) (ls.map (·.data.toList))
  refine h1.imp fun {a b} h => ?_
  simp only [Bool.not_eq_true'] at h
  cases h2 : lessL a b with
  | true => exact .inr rfl
  | false => exact .inl (lessL_tri a b h2 h)
 obtain ⟨h1, h2⟩ := compact_is (fun a b : List UInt8 => lessL a b = true) lessL_trans _ hs
 have h3 : Lib.compact ((ls.map (·.data.toList)).mergeSort fun x y => !lessL y x) = m.map (·.data.toList) := by
  refine rise_unique (fun a b : List UInt8 => lessL a b = true) (fun a h => by rw [lessL_irrefl] at h; cases h) (fun a b h k => by have := lessL_trans a b a h k; rw [lessL_irrefl] at this; cases this) _ _ h1 hm fun x => ?_
  rw [h2, List.mem_mergeSort, List.mem_map, List.mem_map]
  constructor
  ·rintro ⟨b, hb, rfl⟩; exact ⟨b, (hmem b).1 hb, rfl⟩
  ·rintro ⟨b, hb, rfl⟩; exact ⟨b, (hmem b).2 hb, rfl⟩
 unfold labSet
 rw [h3, List.map_map]
 have : (mkB ∘ fun x : ByteArray => x.data.toList) = id := by funext b; exact mkB_data b
 rw [this, List.map_id]

theorem enters_cmpE : ∀ args w, (callFunc 43 args).run Tryz.prog w = .ok (.enter 43 args) w := enters_of Tryz.func43 (by kernel_rfl) rfl

end Go.Proofs.YtifoinannefcpaaGreatDoor

namespace Go.Proofs.YtifoinannefcpaaGreatDoor
open Go Go.RowKit

section
variable {P : Program} {ops : Array Oper} {md : Region.Mode} {C : World → Prop}

/-- Whatever order is picked, of the operations ahead of number n; then L. -/
def headAny (P : Program) (md : Region.Mode) (ops : Array Oper) (C : World → Prop) (n : Nat) (L : Array Bool → Act → Prop) : Nat → Array Bool → Act → Prop
 | 0, listed, a => L listed a
 | f + 1, listed, a => Region.ready md ops listed ≠ [] ∧ ∀ i ∈ Region.ready md ops listed, i < n ∧ qOp P ops C i (headAny P md ops C n L f (listed.setIfInBounds i true)) a

theorem wpAny_of_headAny {n g : Nat} {L : Array Bool → Act → Prop} {Q : Exit → Act → World → Prop} (hL : ∀ listed a w, C w → L listed a → wpAny P md ops Q g listed a w) (f : Nat) :
  ∀ (listed : Array Bool) (a : Act) (w : World), C w → headAny P md ops C n L f listed a → wpAny P md ops Q (f + g) listed a w := by
 induction f with
 | zero => intro listed a w hw h; rw [Nat.zero_add]; exact hL _ _ _ hw h
 | succ f ih =>
  intro listed a w hw h
  rw [show f + 1 + g = (f + g) + 1 from by omega]
  exact ⟨fun h0 => absurd h0 h.1, fun i hi => wpOp_of_qOp hw (fun a' w' hw' h' => ih _ a' w' hw' h') (h.2 i hi).2⟩

theorem headAny_first {n i : Nat} {oi : Oper} {v : Value} {L : Array Bool → Act → Prop} (hi : ops[i]? = some oi) (hsel : ∀ (j : Nat) (o : Oper) cs b, ops[j]? = some o → o.op ≠ .select cs b)
  (hs : Region.sinkB md ops n = true) (hc : Region.chainB md ops n = true) (hn : n < ops.size) (hin : i < n) (hdone : ∀ listed a, L listed a → ∀ j ∈ Region.ready md ops listed, n ≤ j) (f : Nat) :
  ∀ (listed : Array Bool) (a : Act), HeadInv md ops n listed →
   (∀ j oj, ops[j]? = some oj → j ≠ i → listed.getD j true = false → (∀ e ∈ oj.after, Region.binds md e = true → e.on ≠ i) → oi.apart ops oj = true) →
   i ∈ Region.ready md ops listed → YieldsIn P ops C oi v a → headAny P md ops C n L f (listed.setIfInBounds i true) (a.put oi.dst v) → headAny P md ops C n L (f + 1) listed a := by
 have behind : ∀ listed : Array Bool, HeadInv md ops n listed → i ∈ Region.ready md ops listed → ∀ j ∈ Region.ready md ops listed, j < n := by
  intro listed inv hr j hj
  rcases Nat.lt_or_ge j n with h | h
  ·exact h
  ·exact absurd hj (tail_waits hs hc hn inv _ i rfl hin (mem_ready.1 hr).1 j h)
 induction f with
 | zero =>
  intro listed a inv _ hr hy H
  refine ⟨fun h => (by rw [h] at hr; cases hr), fun j hj => ?_⟩
  have hjn := behind listed inv hr j hj
  refine ⟨hjn, ?_⟩
  by_cases hji : j = i
  ·subst hji; exact hy.qOp hi H
  ·have := hdone _ _ H j (ready_mono hj hji)
   omega
 | succ f ih =>
  intro listed a inv hfree hr hy H
  refine ⟨fun h => (by rw [h] at hr; cases hr), fun j hj => ?_⟩
  have hjn := behind listed inv hr j hj
  refine ⟨hjn, ?_⟩
  by_cases hji : j = i
  ·subst hji; exact hy.qOp hi H
  ·obtain ⟨hjun, oj, hoj, hall⟩ := mem_ready.1 hj
   have hnot : ∀ e ∈ oj.after, Region.binds md e = true → e.on ≠ i := fun e he hb heq => by
    have h1 := hall e he hb
    rw [heq, getD_both (mem_ready.1 hr).1] at h1
    cases h1
   have hrest := qOp_put hoj (hfree j oj hoj hji hjun hnot) (fun cs b => hsel i oi cs b hi) (fun cs b => hsel j oj cs b hoj) hy (H.2 j (ready_mono hj hji)).2
   refine qOp_mono (fun a' h3 => ih (listed.setIfInBounds j true) a' (inv.set hj hjn) (fun k ok hk hki hun hno => ?_) (ready_mono hr (Ne.symm hji)) h3.1 ?_) hrest
   ·refine hfree k ok hk hki ?_ hno
    by_cases hjk : j = k
    ·subst hjk; exact hjun
    ·rw [getD_set_ne true hjk] at hun; exact hun
   ·rw [Array.setIfInBounds_comm _ _ hji]
    exact h3.2

theorem headAny_lex {n g : Nat} {L : Act → Prop} (hsel : Region.noSelect ops = true) (hs : Region.sinkB md ops n = true) (hc : Region.chainB md ops n = true) (hn : n < ops.size) (l : List Oper) :
  ∀ (k : Nat) (listed : Array Bool) (a : Act), (∀ j, j < l.length → l[j]? = ops[k + j]?) → k + l.length = n → HeadInv md ops n listed → Region.lexHead md ops g l.length k listed = true → wpQuiet P ops C L l a →
   headAny P md ops C n (fun listed' a' => Region.seqB md ops g n listed' = true ∧ L a') l.length listed a := by
 induction l with
 | nil =>
  intro k listed a _ hk _ hB h
  obtain rfl : k = n := by simpa using hk
  exact ⟨by simpa [Region.lexHead] using hB, h⟩
 | cons o l ih =>
  intro k listed a hl hk inv hB h
  have h0 : ops[k]? = some o := by simpa using (hl 0 (by simp)).symm
  simp only [List.length_cons, Region.lexHead, Bool.and_eq_true] at hB
  have hkn : k < n := by simp only [List.length_cons] at hk; omega
  have hr : k ∈ Region.ready md ops listed := by simpa using hB.1.1
  obtain ⟨v, hy, hK⟩ := yieldsIn_of_qOp h0 (show qOp P ops C k (wpQuiet P ops C L l) a by unfold qOp; simp only [h0]; exact h)
  exact headAny_first h0 (Region.noSelect_spec hsel) hs hc hn hkn (fun _ _ hL => seqB_ready hL.1) l.length listed a inv (Region.free_spec h0 hB.1.2) hr hy
   (ih (k + 1) _ _ (fun j hj => by have := hl (j + 1) (by simp; omega); simpa [Nat.add_assoc, Nat.add_comm 1 j] using this) (by simp only [List.length_cons] at hk; omega) (inv.set hr hkn) hB.2 hK)

/-- The operations ahead of number n are quiet in the class C; the others come in their order, from whatever world of the class. -/
theorem wp_region_quiet_tail {id : Nat} {Q : Exit → Act → World → Prop} {a : Act} {w : World} {l : List Oper} (n : Nat) (hm : P.follows .mixedOrders = true) (hB : Region.lexTailB .any l.toArray n = true) (hC : C { w with drawn := w.drawn + 1 })
  (h : wpQuiet P l.toArray C (fun a' => ∀ w', C w' → wpList P l.toArray Q (l.drop n) a' w') (l.take n) a) : (Code.region id l.toArray true).wp P Q a w := by
 simp only [Region.lexTailB, Bool.and_eq_true, decide_eq_true_eq] at hB
 obtain ⟨⟨⟨⟨hsel, hn⟩, hs⟩, hc⟩, hlex⟩ := hB
 have hn' : n < l.length := by simpa using hn
 have htl : (l.take n).length = n := by simp; omega
 have hdl : (l.drop n).length = l.toArray.size - n := by simp
 have inv0 : HeadInv .any l.toArray n (Array.replicate l.toArray.size false) :=
  ⟨by simp, fun j oj _ hl => (by rw [getD_replicate_false] at hl; cases hl), fun t _ ht => getD_in (by simpa using ht) (getD_replicate_false _ _)⟩
 have H := headAny_lex (C := C) (md := .any) (g := l.toArray.size - n) hsel hs hc hn (l.take n) 0 _ a (fun j hj => by
  have hj' : j < n := by rw [htl] at hj; exact hj
  simp [hj']) (by simpa using htl) inv0 (by rw [htl]; exact hlex) h
 refine wp_region_any hm ?_
 have := wpAny_of_headAny (Q := Q) (g := l.toArray.size - n) (fun listed a' w' hw' hL => by
  have := wpAny_of_seq (md := .any) (Q' := Q) (l.drop n) n listed a' w' (fun j => by simp [List.getElem?_drop]) (by rw [hdl]; exact hL.1) (hL.2 w' hw')
  rwa [hdl] at this) _ _ _ _ hC H
 rw [htl, show n + (l.toArray.size - n) = l.toArray.size from by omega] at this
 exact this
end

/-- At the class of the later worlds. -/
theorem wp_region_later_tail {P : Program} {id : Nat} {Q : Exit → Act → World → Prop} {a : Act} {w : World} {l : List Oper} (n : Nat) (hm : P.follows .mixedOrders = true) (hB : Region.lexTailB .any l.toArray n = true)
  (h : wpQuiet P l.toArray (fun w' => ∃ g : Later w, w' = g.w) (fun a' => ∀ w', (∃ g : Later w, w' = g.w) → wpList P l.toArray Q (l.drop n) a' w') (l.take n) a) : (Code.region id l.toArray true).wp P Q a w :=
 wp_region_quiet_tail (C := fun w' => ∃ g : Later w, w' = g.w) n hm hB ⟨⟨_, (Below.refl _ w).drew⟩, rfl⟩ h

end Go.Proofs.YtifoinannefcpaaGreatDoor

namespace Go.Proofs.YtifoinannefcpaaGreatDoor
open Go Go.RowKit Go.Sort


instance : Inhabited Edge := ⟨⟨0, 0, 0⟩⟩
def RiseE (es : List Edge) : Prop := es.Pairwise fun a b => edgeLess a b = true

theorem holdsE_of_own {w : World} {base g cap n : Nat} {es : List Edge} (h : w.ownsRow base 62 3 (.slice (some ⟨g, 0, none⟩) n cap) n (es.flatMap encE)) (hn : n = es.length) : HoldsK encE 3 w g 0 es.toArray := by
 subst hn
 intro t ht
 have ht' : t < es.length * 3 := by simpa using ht
 refine ⟨?_, h.frozenAt _⟩
 have hs : SliceK 3 encE base w (.slice (some ⟨g, 0, none⟩) es.length cap) es := SliceK.of_owns encE_len rfl h
 obtain ⟨a, c, e, -, -, hrow⟩ := hs
 simp only [Value.slice.injEq, true_and] at e
 obtain ⟨rfl, rfl⟩ := e
 rcases hrow with h0 | ⟨b, o, e, -, -, hc⟩
 ·omega
 ·simp only [Option.some.injEq, Addr.mk.injEq, and_true] at e
  obtain ⟨rfl, rfl⟩ := e
  have hi : t / 3 < es.length := by omega
  have h1 := hc (t / 3) hi (t % 3) (by omega)
  rw [show 0 + t / 3 * 3 + t % 3 = 0 + t from by omega] at h1
  rw [h1]
  rw [get_flatK encE 3 es.toArray t (by simpa using ht')]
  have h2 : es.toArray[t / 3]! = es[t / 3] := by rw [getElem!_pos es.toArray (t / 3) (by simpa using hi)]; simp
  rw [h2]
  have h3 : t % 3 < (encE es[t / 3]).length := by rw [encE_len]; omega
  rw [List.getElem?_eq_getElem h3]
  simp [getElem!_pos, h3]

theorem isAggE (w : World) : (isAgg 62).run Tryz.prog w = .ok true w := by kernel_rfl
theorem sizeOfE (w : World) : (Go.sizeOf 62).run Tryz.prog w = .ok 3 w := by kernel_rfl

theorem eqEdge (x y : Edge) (w : World) : (binOp .eql 62 (.agg #[.int .i64 x.src, .int .i64 x.lab, .int .i64 x.dst]) (.agg #[.int .i64 y.src, .int .i64 y.lab, .int .i64 y.dst])).run Tryz.prog w = .ok (.bool (x.src == y.src && x.lab == y.lab && x.dst == y.dst)) w := by
 have u3 := Tryz.underlying2
 have hS : Tryz.prog.underlying 62 = some (.struct (Tryz.prog.fieldsOf 62)) := by kernel_rfl
 have hp : Tryz.prog.stoodInHeld 62 = false := by kernel_rfl
 rw [run_eql_struct, show (10000 : Nat) = 9999 + 1 from rfl, run_equalIn_agg w 9999 62 _ _ hS hp]
 simp only [Program.fieldsOf, Tryz.underlying62]
 go_simp
 by_cases h1 : x.src = y.src <;> by_cases h2 : x.lab = y.lab <;> by_cases h3 : x.dst = y.dst <;> simp [h1, h2, h3]
theorem guardEdge (op : BinOp) (a b : Operand) (xs ys : Array Value) (w : World) : (eqGuard op 62 a b (.agg xs) (.agg ys)).run Tryz.prog w = .ok () w := run_eqGuard_agg w op 62 a b xs ys (by kernel_rfl)
end Go.Proofs.YtifoinannefcpaaGreatDoor

namespace Go.Proofs.YtifoinannefcpaaGreatDoor
open Go Go.RowKit

/-- A block with room for c elements of one cell; the first n of them are cs. -/
structure CellsAt (w : World) (g : Nat) (T : TypeId) (n c : Nat) (cs : List Value) : Prop where
 blk : ∃ rest : List Value, Blk w g (cs ++ rest) T ∧ cs.length + rest.length = c
 len : cs.length = n
theorem CellsAt.lt {w : World} {g n c : Nat} {T : TypeId} {cs : List Value} (h : CellsAt w g T n c cs) : g < w.heap.size := by obtain ⟨r, hr, -⟩ := h.blk; exact hr.lt
theorem CellsAt.below {w w' : World} {g n c : Nat} {T : TypeId} {cs : List Value} (h : CellsAt w g T n c cs) (hb : Below w.heap.size w w') : CellsAt w' g T n c cs := by
 obtain ⟨r, hr, hl⟩ := h.blk
 exact ⟨⟨r, hr.below hb, hl⟩, h.len⟩
theorem CellsAt.cell {w : World} {g n c : Nat} {T : TypeId} {cs : List Value} (h : CellsAt w g T n c cs) (i : Nat) (hi : i < n) : w.cell? ⟨g, i, none⟩ = cs[i]? := by
 obtain ⟨r, hr, -⟩ := h.blk
 have hi2 : i < cs.length := by rw [h.len]; exact hi
 rw [hr.cell i (v := cs[i]) (by rw [List.getElem?_append_left hi2, List.getElem?_eq_getElem hi2]), List.getElem?_eq_getElem hi2]
theorem CellsAt.cell_some {w : World} {g n c : Nat} {T : TypeId} {cs : List Value} (h : CellsAt w g T n c cs) (i : Nat) (hi : i < n) : ∃ u, w.cell? ⟨g, i, none⟩ = some u := by
 have hi2 : i < cs.length := by rw [h.len]; exact hi
 exact ⟨cs[i], by rw [h.cell i hi, List.getElem?_eq_getElem hi2]⟩
theorem CellsAt.frozen {w : World} {g n c : Nat} {T : TypeId} {cs : List Value} (h : CellsAt w g T n c cs) (i : Nat) : w.frozen? ⟨g, i, none⟩ = false := by
 obtain ⟨r, hr, -⟩ := h.blk
 exact hr.frozen i
theorem CellsAt.set {w : World} {g n c : Nat} {T : TypeId} {cs : List Value} (h : CellsAt w g T n c cs) (i : Nat) (hi : i < n) (v : Value) : CellsAt (w.setCell ⟨g, i, none⟩ v) g T n c (cs.set i v) := by
 obtain ⟨r, hr, hl⟩ := h.blk
 have hi2 : i < cs.length := by rw [h.len]; exact hi
 refine ⟨⟨r, ?_, by rw [List.length_set]; exact hl⟩, by rw [List.length_set]; exact h.len⟩
 have := hr.set i v
 rwa [List.set_append_left _ _ hi2] at this
theorem CellsAt.sets {g n c : Nat} {T : TypeId} (z : Value) : ∀ (m i : Nat) {w : World} {cs : List Value}, CellsAt w g T n c cs → i + m = n → CellsAt (w.setCells g i (List.replicate m z)) g T n c (cs.take i ++ List.replicate m z)
 | 0, i, w, cs, h, hi => by
  have : cs.take i = cs := List.take_of_length_le (by rw [h.len]; omega)
  rw [List.replicate_zero, List.append_nil, this]
  exact h
 | m + 1, i, w, cs, h, hi => by
  have h1 := CellsAt.sets z m (i + 1) (h.set i (by omega) z) (by omega)
  have hil : i < cs.length := by rw [h.len]; omega
  rw [List.replicate_succ, World.setCells]
  have e : (cs.set i z).take (i + 1) = cs.take i ++ [z] := by
   rw [List.take_succ_eq_append_getElem (by rw [List.length_set]; exact hil), List.getElem_set_self, List.take_set_of_le (Nat.le_refl _)]
  rw [e, List.append_assoc] at h1
  exact h1
theorem CellsAt.clear {w : World} {g n c i : Nat} {T : TypeId} {cs : List Value} {z : Value} (h : CellsAt w g T n c cs) (hi : i < n) : CellsAt (w.setCells g i (List.replicate (n - i) z)) g T n c (cs.take i ++ List.replicate (n - i) z) := CellsAt.sets z (n - i) i h (by omega)
theorem CellsAt.of_owns {w : World} {B g n c : Nat} {T : TypeId} {cs : List Value} (h : w.ownsRow B T 1 (.slice (some ⟨g, 0, none⟩) n c) n cs) : CellsAt w g T n c cs := by
 obtain ⟨h0, ⟨h, -⟩ | ⟨g', cap, cur, e, -, hg, hc, -, hs, ht⟩⟩ := h
 ·cases h
 ·simp only [Value.slice.injEq, Option.some.injEq, Addr.mk.injEq, and_true, true_and] at e
  obtain ⟨rfl, rfl⟩ := e
  rw [Nat.mul_one] at h0 hs ht
  refine ⟨⟨cur.toList.drop n, ?_, ?_⟩, h0⟩
  ·unfold Blk
   rw [← ht, List.take_append_drop]
   simpa using hg
  ·rw [List.length_drop, h0, Array.length_toList, hs]
   omega
theorem CellsAt.owns {w : World} {B g n c m : Nat} {T : TypeId} {cs xs : List Value} (h : CellsAt w g T n c cs) (hx : cs.take m = xs) (hm : m ≤ n) (hB : B ≤ g) (_hn : n ≤ c) (hc : c ≤ 9223372036854775807) : w.ownsRow B T 1 (.slice (some ⟨g, 0, none⟩) m c) m xs := by
 obtain ⟨r, hr, hl⟩ := h.blk
 have hlen := h.len
 refine ⟨by rw [← hx, List.length_take]; omega, .inr ⟨g, c, (cs ++ r).toArray, rfl, hB, hr, by omega, by simpa [maxLen] using hc, by simp; omega, ?_⟩⟩
 rw [Nat.mul_one, List.toList_toArray, List.take_append_of_le_length (by omega)]
 exact hx

/-- The first j elements are looked at; i of them are kept and lie in front; behind, all is as it was. -/
structure KeptIn {α : Type} (P : α → Bool) (xs : List α) (i j : Nat) (con : α → Value) (cs : List Value) : Prop where
 lt : i < j
 len : cs.length = xs.length
 kept : cs.take i = ((xs.take j).filter fun x => !P x).map con
 num : ((xs.take j).filter fun x => !P x).length = i
 high : ∀ k (h : k < xs.length), j ≤ k → cs[k]? = some (con xs[k])
theorem KeptIn.start {α : Type} {P : α → Bool} {xs : List α} {con : α → Value} {k : Nat} (hk : k < xs.length) (hl : ∀ j (h : j < xs.length), j < k → P xs[j] = false) (hp : P xs[k] = true) : KeptIn P xs k (k + 1) con (xs.map con) := by
 have h1 : (xs.take (k + 1)).filter (fun x => !P x) = xs.take k := by
  rw [List.take_succ_eq_append_getElem hk, List.filter_append]
  have h2 : (xs.take k).filter (fun x => !P x) = xs.take k := by
   rw [List.filter_eq_self]
   intro x hx
   obtain ⟨j, hj, rfl⟩ := List.mem_iff_getElem.1 hx
   rw [List.length_take] at hj
   rw [List.getElem_take, hl j (by omega) (by omega)]
   rfl
  rw [h2, List.filter_cons, hp]
  simp
 refine ⟨by omega, by simp, ?_, ?_, fun j hj _ => by rw [List.getElem?_map, List.getElem?_eq_getElem hj]; rfl⟩
 ·rw [h1, List.map_take]
 ·rw [h1, List.length_take]; omega
theorem KeptIn.keep {α : Type} {P : α → Bool} {xs : List α} {con : α → Value} {i j : Nat} {cs : List Value} (h : KeptIn P xs i j con cs) (hj : j < xs.length) (hp : P xs[j] = false) : KeptIn P xs (i + 1) (j + 1) con (cs.set i (con xs[j])) := by
 have hl := h.len
 have hi := h.lt
 have e : (xs.take (j + 1)).filter (fun x => !P x) = (xs.take j).filter (fun x => !P x) ++ [xs[j]] := by
  rw [List.take_succ_eq_append_getElem hj, List.filter_append, List.filter_cons, hp]
  simp
 refine ⟨by omega, by rw [List.length_set]; exact hl, ?_, ?_, fun k hk hjk => ?_⟩
 ·rw [e, List.map_append, ← h.kept, List.take_succ_eq_append_getElem (by rw [List.length_set]; omega), List.getElem_set_self, List.take_set_of_le (Nat.le_refl _)]
  rfl
 ·rw [e, List.length_append, h.num]
  rfl
 ·rw [List.getElem?_set_ne (by omega)]
  exact h.high k hk (by omega)
theorem KeptIn.drop {α : Type} {P : α → Bool} {xs : List α} {con : α → Value} {i j : Nat} {cs : List Value} (h : KeptIn P xs i j con cs) (hj : j < xs.length) (hp : P xs[j] = true) : KeptIn P xs i (j + 1) con cs := by
 have hi := h.lt
 have e : (xs.take (j + 1)).filter (fun x => !P x) = (xs.take j).filter (fun x => !P x) := by
  rw [List.take_succ_eq_append_getElem hj, List.filter_append, List.filter_cons, hp]
  simp
 exact ⟨by omega, h.len, by rw [e]; exact h.kept, by rw [e]; exact h.num, fun k hk hjk => h.high k hk (by omega)⟩
theorem KeptIn.all {α : Type} {P : α → Bool} {xs : List α} {con : α → Value} {i j : Nat} {cs : List Value} (h : KeptIn P xs i j con cs) (hj : xs.length ≤ j) : (xs.filter fun x => !P x).length = i ∧ (xs.filter fun x => !P x).map con = cs.take i := by
 have e : xs.take j = xs := List.take_of_length_le hj
 have h1 := h.kept
 have h2 := h.num
 rw [e] at h1 h2
 exact ⟨h2, h1.symm⟩

end Go.Proofs.YtifoinannefcpaaGreatDoor

namespace Go.Proofs.YtifoinannefcpaaGreatDoor
open Go Go.RowKit


section
variable {α : Type}
/-- While the tail is moved up: something at the place k. -/
def shiftG (L : List α) (j : α) (k : Nat) : List α := L.take k ++ j :: L.drop k
theorem shiftG_len {L : List α} (j : α) (k : Nat) : (shiftG L j k).length = L.length + 1 := by
 unfold shiftG
 rw [List.length_append, List.length_cons, ← Nat.add_assoc, ← List.length_append, List.take_append_drop]
theorem shiftG_end (L : List α) (j : α) : L ++ [j] = shiftG L j L.length := by simp [shiftG]
theorem shiftG_get {L : List α} {j : α} {k : Nat} (h1 : 1 ≤ k) (hk : k ≤ L.length) : (shiftG L j k)[k - 1]? = some (L[k - 1]'(by omega)) := by
 unfold shiftG
 rw [List.getElem?_append_left (by rw [List.length_take]; omega), List.getElem?_take, if_pos (by omega), List.getElem?_eq_getElem (by omega)]
theorem shiftG_set {L : List α} {j : α} {k : Nat} (h1 : 1 ≤ k) (hk : k ≤ L.length) : (shiftG L j k).set k (L[k - 1]'(by omega)) = shiftG L (L[k - 1]'(by omega)) (k - 1) := by
 unfold shiftG
 have hl : (L.take k).length = k := by rw [List.length_take]; omega
 rw [List.set_append_right _ _ (by omega), hl, Nat.sub_self, List.set_cons_zero]
 have h2 : L.take k = L.take (k - 1) ++ [L[k - 1]'(by omega)] := by
  have := List.take_succ_eq_append_getElem (l := L) (i := k - 1) (by omega)
  rw [show k - 1 + 1 = k from by omega] at this
  exact this
 have h3 : L.drop (k - 1) = L[k - 1]'(by omega) :: L.drop k := by
  have := List.drop_eq_getElem_cons (l := L) (i := k - 1) (by omega)
  rw [show k - 1 + 1 = k from by omega] at this
  exact this
 rw [h2, h3, List.append_assoc]
 rfl
theorem shiftG_put {L : List α} {j x : α} {k : Nat} (hk : k ≤ L.length) : (shiftG L j k).set k x = L.take k ++ x :: L.drop k := by
 unfold shiftG
 have hl : (L.take k).length = k := by rw [List.length_take]; omega
 rw [List.set_append_right _ _ (by omega), hl, Nat.sub_self, List.set_cons_zero]
end

theorem put_rise {E : List Edge} {e : Edge} {k : Nat} (hr : RiseE E) (hk : k ≤ E.length) (hhi : ∀ j (h : j < E.length), k ≤ j → edgeLess e E[j] = true) (hlo : ∀ h : 0 < k, edgeLess (E[k - 1]'(by omega)) e = true) : RiseE (E.take k ++ e :: E.drop k) := by
 have hp := List.pairwise_iff_getElem.1 hr
 unfold RiseE
 rw [List.pairwise_append, List.pairwise_cons]
 have hdrop : ∀ x ∈ E.drop k, edgeLess e x = true := by
  intro x hx
  obtain ⟨i, hi, rfl⟩ := List.mem_iff_getElem.1 hx
  rw [List.getElem_drop]
  rw [List.length_drop] at hi
  exact hhi _ (by omega) (by omega)
 have htake : ∀ x ∈ E.take k, edgeLess x e = true := by
  intro x hx
  obtain ⟨i, hi, rfl⟩ := List.mem_iff_getElem.1 hx
  rw [List.length_take] at hi
  rw [List.getElem_take]
  have h0 : 0 < k := by omega
  by_cases e1 : i = k - 1
  ·have := hlo h0
   subst e1
   exact this
  ·exact edgeLess_trans _ _ _ (hp i (k - 1) (by omega) (by omega) (by omega)) (hlo h0)
 refine ⟨hr.sublist (List.take_sublist _ _), ⟨hdrop, hr.sublist (List.drop_sublist _ _)⟩, fun a ha b hb => ?_⟩
 rcases List.mem_cons.1 hb with rfl | hb
 ·exact htake a ha
 ·exact edgeLess_trans _ _ _ (htake a ha) (hdrop b hb)
theorem put_mem {E : List Edge} {e : Edge} {k : Nat} (x : Edge) : x ∈ E.take k ++ e :: E.drop k ↔ x ∈ E ∨ x = e := by
 rw [List.mem_append, List.mem_cons]
 have h : x ∈ E ↔ x ∈ E.take k ∨ x ∈ E.drop k := by rw [← List.mem_append, List.take_append_drop]
 rw [h]
 constructor
 ·rintro (h | h | h)
  ·exact .inl (.inl h)
  ·exact .inr h
  ·exact .inl (.inr h)
 ·rintro ((h | h) | h)
  ·exact .inl h
  ·exact .inr (.inr h)
  ·exact .inr (.inl h)
theorem put_len {E : List Edge} (e : Edge) (k : Nat) : (E.take k ++ e :: E.drop k).length = E.length + 1 := by
 have := shiftG_len (L := E) e k
 unfold shiftG at this
 exact this

theorem flat_set : ∀ (E : List Edge) (k : Nat) (x : Edge), k < E.length → (((E.flatMap encE).set (k * 3) (.int .i64 x.src)).set (k * 3 + 1) (.int .i64 x.lab)).set (k * 3 + 2) (.int .i64 x.dst) = (E.set k x).flatMap encE
 | [], _, _, h => by simp at h
 | a :: E, 0, x, _ => by simp [encE]
 | a :: E, k + 1, x, h => by
  have ih := flat_set E k x (by simpa using h)
  rw [show (k + 1) * 3 = k * 3 + 3 from by omega]
  simp only [List.flatMap_cons, encE, List.cons_append, List.nil_append, List.set_cons_succ, List.cons.injEq, true_and]
  exact ih
theorem flat_len (E : List Edge) : (E.flatMap encE).length = E.length * 3 := by
 induction E with
 | nil => rfl
 | cons a r ih => rw [List.flatMap_cons, List.length_append, ih, encE_len, List.length_cons]; omega
theorem flat_get : ∀ (E : List Edge) (k : Nat) (h : k < E.length), (E.flatMap encE)[k * 3]? = some (.int .i64 E[k].src) ∧ (E.flatMap encE)[k * 3 + 1]? = some (.int .i64 E[k].lab) ∧ (E.flatMap encE)[k * 3 + 2]? = some (.int .i64 E[k].dst)
 | [], _, h => by simp at h
 | a :: E, 0, _ => by simp [encE]
 | a :: E, k + 1, h => by
  have ih := flat_get E k (by simpa using h)
  rw [show (k + 1) * 3 = k * 3 + 3 from by omega]
  simpa [List.flatMap_cons, encE] using ih

theorem CellsAt.of_owns3 {w : World} {B g n c : Nat} {T : TypeId} {cs : List Value} (h : w.ownsRow B T 3 (.slice (some ⟨g, 0, none⟩) n c) n cs) : CellsAt w g T (n * 3) (c * 3) cs := by
 obtain ⟨h0, ⟨h, -⟩ | ⟨g', cap, cur, e, -, hg, hc, -, hs, ht⟩⟩ := h
 ·cases h
 ·simp only [Value.slice.injEq, Option.some.injEq, Addr.mk.injEq, and_true, true_and] at e
  obtain ⟨rfl, rfl⟩ := e
  refine ⟨⟨cur.toList.drop (n * 3), ?_, ?_⟩, h0⟩
  ·unfold Blk
   rw [← ht, List.take_append_drop]
   simpa using hg
  ·rw [List.length_drop, h0, Array.length_toList, hs]
   omega
theorem CellsAt.owns3 {w : World} {B g n c : Nat} {T : TypeId} {cs : List Value} (h : CellsAt w g T (n * 3) (c * 3) cs) (hB : B ≤ g) (hn : n ≤ c) (hc : c ≤ 9223372036854775807) : w.ownsRow B T 3 (.slice (some ⟨g, 0, none⟩) n c) n cs := by
 obtain ⟨r, hr, hl⟩ := h.blk
 have hlen := h.len
 refine ⟨hlen, .inr ⟨g, c, (cs ++ r).toArray, rfl, hB, hr, hn, by simpa [maxLen] using hc, by simp; omega, ?_⟩⟩
 rw [List.toList_toArray, List.take_append_of_le_length (by omega), List.take_of_length_le (by omega)]
/-- The edges in a block of the call's own. -/
def EdgesAt (w : World) (g n c : Nat) (E : List Edge) : Prop := CellsAt w g 62 (n * 3) (c * 3) (E.flatMap encE)
theorem EdgesAt.put {w : World} {g n c : Nat} {E : List Edge} (h : EdgesAt w g n c E) (hn : E.length = n) {k : Nat} (hk : k < n) (x : Edge) :
  EdgesAt (((w.setCell ⟨g, k * 3, none⟩ (.int .i64 x.src)).setCell ⟨g, k * 3 + 1, none⟩ (.int .i64 x.lab)).setCell ⟨g, k * 3 + 2, none⟩ (.int .i64 x.dst)) g n c (E.set k x) := by
 unfold EdgesAt at h ⊢
 rw [← flat_set E k x (by omega)]
 exact ((h.set (k * 3) (by omega) _).set (k * 3 + 1) (by omega) _).set (k * 3 + 2) (by omega) _
theorem EdgesAt.get {w : World} {g n c : Nat} {E : List Edge} (h : EdgesAt w g n c E) (hn : E.length = n) {k : Nat} (hk : k < n) {x : Edge} (hx : E[k]? = some x) : w.cell? ⟨g, k * 3, none⟩ = some (.int .i64 x.src) ∧ w.cell? ⟨g, k * 3 + 1, none⟩ = some (.int .i64 x.lab) ∧ w.cell? ⟨g, k * 3 + 2, none⟩ = some (.int .i64 x.dst) := by
 have hk2 : k < E.length := by omega
 obtain ⟨h1, h2, h3⟩ := flat_get E k hk2
 rw [List.getElem?_eq_getElem hk2] at hx
 cases hx
 exact ⟨by rw [CellsAt.cell h _ (by omega)]; exact h1, by rw [CellsAt.cell h _ (by omega)]; exact h2, by rw [CellsAt.cell h _ (by omega)]; exact h3⟩
/-- Written in one block only. -/
theorem grown_sets {w w' : World} {g a b c : Nat} {x y z : Value} {row : Option Nat} (h : w.grownBy w' row) (hg : row = some g ∨ w.heap.size ≤ g) : w.grownBy (((w'.setCell ⟨g, a, none⟩ x).setCell ⟨g, b, none⟩ y).setCell ⟨g, c, none⟩ z) row := by
 have one : ∀ {w1 : World} (p : Nat) (u : Value), w.grownBy w1 row → w.grownBy (w1.setCell ⟨g, p, none⟩ u) row := by
  intro w1 p u h1
  have h2 := grown_setCell w1 ⟨g, p, none⟩ u
  refine ⟨h2.os.trans h1.os, h2.tape.trans h1.tape, h2.output.trans h1.output, Nat.le_trans h1.size h2.size, fun k hk hne => ?_⟩
  rw [h2.block k (Nat.lt_of_lt_of_le hk h1.size) (by
   intro e
   simp only [Option.some.injEq] at e
   rcases hg with hg | hg
   ·exact hne (by rw [hg, e])
   ·omega)]
  exact h1.block k hk hne
 exact one _ _ (one _ _ (one _ _ h))

end Go.Proofs.YtifoinannefcpaaGreatDoor
