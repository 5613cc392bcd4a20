/-
  The two comparisons that the implementation sorts by: labels (tau first), edges.
  What the implementation's functions on numbers' texts compute: strconv by the shelf's contracts.
  The library's Sort, Compact and Clone at lists of numbers of the call's own.
  The library's sorts as lts calls them: labels sorted and made one, edges that stand in order already.
  Regions that draw their order, whose operations are quiet in a class of worlds, but for a tail in one forced order.
  The library's sort and Compact at edges that stand in strictly ascending order: nothing turns.
  Simulations between systems with the same labels; closed parts, quotients by mutual simulation, and systems without little brothers. Plain.
-/
import Derived.Test.YtdkbbknhighebaaGreatDoorL2
import Derived.Test.YtdkbbknhighebaaGreatDoorL3
import Derived.Lib.Bytealg
import Derived.Sort.Grow
import Derived.Shelf.SlSortCmp.NoneTotal
import Derived.WalkSmall
import Derived.Lib.AppendIntMem
import Derived.Sort.OwnSortedInts
import Derived.Lib.OwnBridge
import Derived.Sort.OwnSorted
import Derived.BigQuiet
import Derived.Test.YtdkbbknhighebaaGreatDoorL1
import Derived.StillTail
import Derived.Laws.StructEq
namespace Go.Proofs.YtdkbbknhighebaaGreatDoor
open Go Go.RowKit


/-- What a call that turns nothing leaves: draws, and blocks behind. -/
theorem grow_of_below {w w' : World} (hb : Below w.heap.size w w') (hd : w.drawn ≤ w'.drawn) : ∃ q os, w' = Go.Sort.grow (w.drewN q) os := by
 refine ⟨w'.drawn - w.drawn, w'.heap.extract w.heap.size w'.heap.size, ?_⟩
 have hh : w'.heap = w.heap ++ w'.heap.extract w.heap.size w'.heap.size := by
  apply Array.ext_getElem?
  intro i
  by_cases hi : i < w.heap.size
  ·rw [hb.block i hi, Array.getElem?_append_left hi]
  ·rw [Array.getElem?_append_right (by omega), Array.getElem?_extract]
   have := hb.size
   by_cases h2 : i < w'.heap.size
   ·rw [if_pos (by omega)]; congr 1; omega
   ·rw [if_neg (by omega), Array.getElem?_eq_none (by omega)]
 obtain ⟨h1, h2, h3⟩ := (⟨hb.os, hb.tape, hb.output⟩ : w'.os = w.os ∧ w'.tape = w.tape ∧ w'.output = w.output)
 cases w; cases w'
 simp only at h1 h2 h3 hh hd
 subst h1 h2 h3
 simp only [Go.Sort.grow, World.drewN, World.mk.injEq, true_and, and_true]
 exact ⟨hh, by omega⟩

set_option maxRecDepth 100000 in
theorem compareEdges_more (a b : Edge) (w : World) : Calls Tryz.prog 33 #[.agg #[.int .i64 a.src, .int .i64 a.lab, .int .i64 a.dst], .agg #[.int .i64 b.src, .int .i64 b.lab, .int .i64 b.dst]] w fun e w' => e = .returned (.int .i64 (cmpE a b)) ∧ Below w.heap.size w w' ∧ w.drawn ≤ w'.drawn := by
 obtain ⟨W, hW⟩ : ∃ W, W = (w.alloc (.cells #[.int .i64 a.src, .int .i64 a.lab, .int .i64 a.dst] 47)).alloc (.cells #[.int .i64 b.src, .int .i64 b.lab, .int .i64 b.dst] 47) := ⟨_, rfl⟩
 have HB : Hid (Below w.heap.size w W) := by
  unfold Hid
  rw [hW]
  exact ((Below.refl _ _).alloc (Nat.le_refl _) _).alloc (by simp) _
 have HDR : Hid (W.drawn = w.drawn) := by unfold Hid; rw [hW]; rfl
 have a0 : W.cell? ⟨w.heap.size, 0, none⟩ = some (.int .i64 a.src) := by rw [hW]; simp
 have a1 : W.cell? ⟨w.heap.size, 1, none⟩ = some (.int .i64 a.lab) := by rw [hW]; simp
 have a2 : W.cell? ⟨w.heap.size, 2, none⟩ = some (.int .i64 a.dst) := by rw [hW]; simp
 have b0 : W.cell? ⟨w.heap.size + 1, 0, none⟩ = some (.int .i64 b.src) := by rw [hW]; simp
 have b1 : W.cell? ⟨w.heap.size + 1, 1, none⟩ = some (.int .i64 b.lab) := by rw [hW]; simp
 have b2 : W.cell? ⟨w.heap.size + 1, 2, none⟩ = some (.int .i64 b.dst) := by rw [hW]; simp
 go_enter Tryz.func33, Tryz.ntmps33
 go_wp2
 rw [← hW]
 clear hW
 go_still_tail 15, (by kernel_rfl)
 still_call (still_same (Compare_any _ _ _))
 repeat still_step
 still_call (still_same (Compare_any _ _ _))
 repeat still_step
 still_call (still_same (Compare_any _ _ _))
 repeat still_step
 refine wpStill_nil ?_
 change wpList _ _ _ _ _ W.drew
 obtain ⟨W2, hW2⟩ : ∃ W2, W2 = W.drew := ⟨_, rfl⟩
 rw [← hW2]
 have HB2 : Hid (Below w.heap.size w W2) := by
  unfold Hid
  rw [hW2]
  exact HB.out.drew
 have HD2 : Hid (w.drawn ≤ W2.drawn) := by
  unfold Hid
  rw [hW2]
  show w.drawn ≤ W.drawn + 1
  have := HDR.out
  omega
 clear hW2 a0 a1 a2 b0 b1 b2
 have HS : Hid (SliceK 1 encI 0 (W2.alloc (.cells #[.int .i64 (cmpI a.src b.src), .int .i64 (cmpI a.lab b.lab), .int .i64 (cmpI a.dst b.dst)] 3)) (.slice (some ⟨W2.heap.size, 0, none⟩) 3 3) [cmpI a.src b.src, cmpI a.lab b.lab, cmpI a.dst b.dst]) := by
  have := World.ownsRow_lit (base := 0) (e := 3) (size := 1) W2 #[.int .i64 (cmpI a.src b.src), .int .i64 (cmpI a.lab b.lab), .int .i64 (cmpI a.dst b.dst)] 3 (Nat.zero_le _) (by decide) (by simp)
  exact SliceK.of_owns (e := 3) encI_len rfl (by rw [flat_encI]; simpa using this)
 have HB3 : Hid (Below w.heap.size w (W2.alloc (.cells #[.int .i64 (cmpI a.src b.src), .int .i64 (cmpI a.lab b.lab), .int .i64 (cmpI a.dst b.dst)] 3))) := HB2.out.alloc HB2.out.size _
 have HD3 : Hid (w.drawn ≤ (W2.alloc (.cells #[.int .i64 (cmpI a.src b.src), .int .i64 (cmpI a.lab b.lab), .int .i64 (cmpI a.dst b.dst)] 3)).drawn) := HD2.out
 go_wp2_with fail
 refine (Or_any 0 _ _ _ HS.out).mono ?_
 rintro e w' ⟨rfl, rfl⟩
 go_wp2_with fail
 go_ret
 exact ⟨rfl, HB3.out, HD3.out⟩

theorem swo_of_total {α : Type} {lt : α → α → Bool} (hi : ∀ x, lt x x = false) (ht : ∀ x y z, lt x y = true → lt y z = true → lt x z = true) (htri : ∀ x y, lt x y = false → lt y x = false → x = y) : Go.Sort.SWO lt where
 irrefl := hi
 trans := ht
 ntrans x y z h1 h2 := by
  cases h : lt x z with
  | false => rfl
  | true =>
   cases h3 : lt y x with
   | true => rw [ht y x z h3 h] at h2; cases h2
   | false =>
    have e := htri x y h1 h3
    subst e
    rw [h] at h2
    cases h2

/-- The strict order of labels: tau first. -/
def lessL (a b : List UInt8) : Bool := !(a == b) && (a == tauB || (!(b == tauB) && Op.bytesLess a b))
theorem lessL_iff (a b : List UInt8) : lessL a b = true ↔ a ≠ b ∧ (a = tauB ∨ (b ≠ tauB ∧ a < b)) := by
 unfold lessL
 rw [less_lt]
 simp
theorem lessL_irrefl (a : List UInt8) : lessL a a = false := by unfold lessL; simp
theorem lessL_trans (a b c : List UInt8) (h : lessL a b = true) (k : lessL b c = true) : lessL a c = true := by
 rw [lessL_iff] at *
 obtain ⟨h1, h2⟩ := h
 obtain ⟨k1, k2⟩ := k
 rcases h2 with h2 | ⟨h2, h3⟩
 ·refine ⟨fun e => ?_, .inl h2⟩
  rcases k2 with k2 | ⟨k2, k3⟩
  ·exact h1 (by rw [h2, k2])
  ·exact k2 (by rw [← e, h2])
 ·rcases k2 with k2 | ⟨k2, k3⟩
  ·exact absurd k2 h2
  ·exact ⟨fun e => List.lt_irrefl a (by rw [e] at h3 ⊢; exact List.lt_trans h3 k3), .inr ⟨k2, List.lt_trans h3 k3⟩⟩
theorem lessL_tri (a b : List UInt8) (h : lessL a b = false) (k : lessL b a = false) : a = b := by
 by_cases e : a = b
 ·exact e
 ·exfalso
  have h1 := fun x => (Bool.eq_false_iff.1 h) ((lessL_iff a b).2 x)
  have k1 := fun x => (Bool.eq_false_iff.1 k) ((lessL_iff b a).2 x)
  by_cases ta : a = tauB
  ·exact h1 ⟨e, .inl ta⟩
  ·by_cases tb : b = tauB
   ·exact k1 ⟨fun x => e x.symm, .inl tb⟩
   ·have h2 : ¬ a < b := fun x => h1 ⟨e, .inr ⟨tb, x⟩⟩
    have h3 : ¬ b < a := fun x => k1 ⟨fun x => e x.symm, .inr ⟨ta, x⟩⟩
    exact e (List.le_antisymm (List.not_lt.1 h3) (List.not_lt.1 h2))
theorem ltOf_cmpE : ltOf cmpE = edgeLess := by
 funext a b
 unfold ltOf
 have h := cmpE_less a b
 cases h2 : edgeLess a b with
 | true => rw [h2] at h; simp only [Bool.not_true, decide_eq_false_iff_not] at h; rw [decide_eq_true_eq]; omega
 | false => rw [h2] at h; simp only [Bool.not_false, decide_eq_true_eq] at h; rw [decide_eq_false_iff_not]; omega
theorem edgeLess_iff (a b : Edge) : edgeLess a b = true ↔ (a.src < b.src ∨ (a.src = b.src ∧ (a.lab < b.lab ∨ (a.lab = b.lab ∧ a.dst < b.dst)))) := by
 unfold edgeLess
 split
 ·rw [decide_eq_true_eq]; omega
 ·split
  ·rw [decide_eq_true_eq]; omega
  ·rw [decide_eq_true_eq]; omega
theorem edgeLess_irrefl (a : Edge) : edgeLess a a = false := by rw [Bool.eq_false_iff]; intro h; rw [edgeLess_iff] at h; omega
theorem edgeLess_trans (a b c : Edge) (h : edgeLess a b = true) (k : edgeLess b c = true) : edgeLess a c = true := by rw [edgeLess_iff] at *; omega
theorem edgeLess_tri (a b : Edge) (h : edgeLess a b = false) (k : edgeLess b a = false) : a = b := by
 rw [Bool.eq_false_iff] at h k
 have h1 := mt (edgeLess_iff a b).2 h
 have k1 := mt (edgeLess_iff b a).2 k
 have e1 : a.src = b.src := by omega
 have e2 : a.lab = b.lab := by omega
 have e3 : a.dst = b.dst := by omega
 cases a; cases b
 simp only at e1 e2 e3
 subst e1 e2 e3
 rfl
theorem swoE : Go.Sort.SWO (ltOf cmpE) := by rw [ltOf_cmpE]; exact swo_of_total edgeLess_irrefl edgeLess_trans edgeLess_tri

end Go.Proofs.YtdkbbknhighebaaGreatDoor

namespace Go.Proofs.YtdkbbknhighebaaGreatDoor
open Go Go.RowKit


/-- What the library's own variables hold. -/
structure Glob (w : World) : Prop where
 max : ∃ m, w.cell? ⟨0, 0, none⟩ = some (.int .i64 m)
 syn : ∃ ev, w.cell? ⟨1, 0, none⟩ = some ev ∧ (ev = .nilIface ∨ ∃ te pe, ev = .iface te pe)
 rng : ∃ ev, w.cell? ⟨2, 0, none⟩ = some ev ∧ (ev = .nilIface ∨ ∃ te pe, ev = .iface te pe)
 tab : Lib.TabIs Tryz.prog w "internal/strconv.uint64pow10" .u64 Lib.pow10Tab

theorem Glob.below {w w' : World} (h : Glob w) (hb : Below w.heap.size w w') : Glob w' := by
 obtain ⟨⟨m, h1⟩, ⟨e1, h2, h2'⟩, ⟨e2, h3, h3'⟩, h4⟩ := h
 have hg : Tryz.prog.globalNamed "internal/strconv.uint64pow10" = some 5 := by kernel_rfl
 have hlt : 5 < w.heap.size := by
  have h5 := h4
  unfold Lib.TabIs World.var? at h5
  rw [hg] at h5
  simp only [Option.bind_some] at h5
  rcases Nat.lt_or_ge 5 w.heap.size with h | h
  ·exact h
  ·rw [Array.getElem?_eq_none h] at h5; simp at h5
 refine ⟨⟨m, keeps hb (World.block_lt_of_cell? w _ h1) h1⟩, ⟨e1, keeps hb (World.block_lt_of_cell? w _ h2) h2, h2'⟩, ⟨e2, keeps hb (World.block_lt_of_cell? w _ h3) h3, h3'⟩, ?_⟩
 exact var?_below hb hg hlt h4

theorem Decimal_any (n : Int) (w : World) (h0 : -9223372036854775808 ≤ n) (h1 : n ≤ 9223372036854775807) (g : Glob w) :
  Calls Tryz.prog 124 #[.int .i64 n] w fun e w' => e = .returned (.string ⟨(Lib.itoa n).toArray⟩) ∧ Below w.heap.size w w' := by
 have G := Lib.hid g.tab
 have H0 := Lib.hid h0
 have H1 := Lib.hid h1
 clear g h0 h1
 go_enter Tryz.func124, Tryz.ntmps124
 go_wp2_with fail
 refine (Tryz.strconv_FormatInt_10 n H0.out H1.out _ G.out).mono ?_
 rintro e w' ⟨rfl, k, os, rfl⟩
 have HB : Hid (Below w.heap.size w (Go.Sort.grow (w.drewN k) os)) := Lib.below_grow _ w (Nat.le_refl _) k os
 go_wp2_with fail
 go_ret
 exact ⟨rfl, HB.out⟩

/-- What ReadDecimal reads. -/
def readDec (l : List UInt8) : Option Int :=
 if 18 < (Lib.trimPrefix l [45]).length then none
 else match Lib.parseIntB 64 l with
  | .ok n => if Lib.itoa n = l then some n else none
  | _ => none

/-- ReadDecimal's answer. -/
def RetDec (l : List UInt8) (w : World) (e : Ending) (w' : World) : Prop := e = .returned (.tuple #[.int .i64 ((readDec l).getD 0), .bool (readDec l).isSome]) ∧ Below w.heap.size w w'

theorem ReadDecimal_any (s : ByteArray) (w : World) (hs : s.size ≤ 1073741824) (g : Glob w) : Calls Tryz.prog 101 #[.string s] w (RetDec s.data.toList w) := by
 have G := Lib.hid g
 clear g
 by_cases h18 : 18 < (Lib.trimPrefix s.data.toList [45]).length
 ·have HF : Hid (readDec s.data.toList = none) := by unfold Hid readDec; rw [if_pos h18]
  have HL := Lib.hid h18
  go_enter Tryz.func101, Tryz.ntmps101
  go_wp2_with fail
  refine (Tryz.strings_TrimPrefix s ⟨#[45]⟩ _).mono ?_
  rintro e w' ⟨rfl, rfl⟩
  have h18' : 18 < ((Lib.trimPrefix s.data.toList [45]).length : Int) := by omega
  clear h18
  go_wp2_with fail
  go_ret2
  unfold RetDec
  rw [HF.out]
  exact ⟨rfl, Below.refl _ _⟩
 ·have h18' : ¬ 18 < ((Lib.trimPrefix s.data.toList [45]).length : Int) := by omega
  have HR : Hid (readDec s.data.toList = match Lib.parseIntB 64 s.data.toList with
   | .ok n => if Lib.itoa n = s.data.toList then some n else none
   | _ => none) := by unfold Hid readDec; rw [if_neg h18]
  clear h18
  rcases hp : Lib.parseIntB 64 s.data.toList with v | _ | _
  ·have HP := Lib.hid hp
   have hbd := Lib.parseIntB_bounds hp
   have HB1 : Hid (-9223372036854775808 ≤ v) := by have := hbd.1; unfold Hid; simpa using this
   have HB2 : Hid (v ≤ 9223372036854775807) := by have := hbd.2; unfold Hid; simp at this; omega
   rw [hp] at HR
   clear hp hbd
   go_enter Tryz.func101, Tryz.ntmps101
   go_wp2_with fail
   refine (Tryz.strings_TrimPrefix s ⟨#[45]⟩ _).mono ?_
   rintro e w' ⟨rfl, rfl⟩
   go_wp2_with fail
   refine (Tryz.strconv_ParseInt_10_at64_ok s (by omega) v HP.out _).mono ?_
   rintro e w1 ⟨rfl, hw1⟩
   have HB3 : Hid (Below w'.heap.size w' w1) := by
    rcases hw1 with rfl | ⟨t, rfl⟩
    ·exact Below.refl _ _
    ·exact Lib.bytesWorld_below _ _ _
   clear hw1
   go_wp2_with fail
   refine (Decimal_any v _ HB1.out HB2.out (G.out.below HB3.out)).mono ?_
   rintro e w2 ⟨rfl, hb2⟩
   have HB4 := Lib.hid hb2
   clear hb2
   by_cases hq : Lib.itoa v = s.data.toList
   ·have HF : Hid (readDec s.data.toList = some v) := by unfold Hid; rw [HR.out, if_pos hq]
    go_wp2_with fail
    go_ret2
    unfold RetDec
    rw [HF.out]
    exact ⟨rfl, HB3.out.trans (HB4.out.mono HB3.out.size)⟩
   ·have HF : Hid (readDec s.data.toList = none) := by unfold Hid; rw [HR.out, if_neg hq]
    have hq' : (!Lib.itoa v == s.toList) = true := by rw [Lib.toList_data]; simpa using hq
    go_wp2_with fail
    go_ret2
    unfold RetDec
    rw [HF.out]
    exact ⟨rfl, HB3.out.trans (HB4.out.mono HB3.out.size)⟩
  ·have HP := Lib.hid hp
   rw [hp] at HR
   clear hp
   obtain ⟨ev, hv, hev⟩ := G.out.syn
   have HV := Lib.hid hv
   have HE := Lib.hid hev
   clear hv hev
   go_enter Tryz.func101, Tryz.ntmps101
   go_wp2_with fail
   refine (Tryz.strings_TrimPrefix s ⟨#[45]⟩ _).mono ?_
   rintro e w' ⟨rfl, rfl⟩
   go_wp2_with fail
   refine (Any.strconv_ParseInt_10_at64_syntax Tryz.laysC174 s (by omega) HP.out ev _ HV.out HE.out).mono ?_
   rintro e w1 ⟨N, rfl, -, -, hb⟩
   have HB3 := Lib.hid hb
   clear hb
   go_wp2_with fail
   go_ret2
   unfold RetDec
   rw [HR.out]
   exact ⟨rfl, HB3.out⟩
  ·have HP := Lib.hid hp
   rw [hp] at HR
   clear hp
   obtain ⟨ev, hv, hev⟩ := G.out.rng
   have HV := Lib.hid hv
   have HE := Lib.hid hev
   clear hv hev
   go_enter Tryz.func101, Tryz.ntmps101
   go_wp2_with fail
   refine (Tryz.strings_TrimPrefix s ⟨#[45]⟩ _).mono ?_
   rintro e w' ⟨rfl, rfl⟩
   go_wp2_with fail
   refine (Tryz.strconv_ParseInt_10_at64_range s (by omega) HP.out ev _ HV.out HE.out).mono ?_
   rintro e w1 ⟨N, rfl, -, -, hb⟩
   have HB3 := Lib.hid hb
   clear hb
   go_wp2_with fail
   go_ret2
   unfold RetDec
   rw [HR.out]
   exact ⟨rfl, HB3.out⟩

end Go.Proofs.YtdkbbknhighebaaGreatDoor

namespace Go.Proofs.YtdkbbknhighebaaGreatDoor
open Go Go.RowKit


theorem Sort_own (base : Nat) (v : Value) (xs : List Int) (w : World) (ho : w.ownsRow base 2 1 v xs.length (xs.map (Value.int .i64))) (hz : xs.length ≤ 1048576) :
  Calls Tryz.prog 146 #[v] w fun e w' => e = .returned (.tuple #[]) ∧ w'.ownsRow base 2 1 v xs.length ((xs.mergeSort fun x y => decide (x ≤ y)).map (Value.int .i64)) ∧ w.grownBy w' v.ownBlock := by
 rcases ho.2 with ⟨rfl, h0⟩ | ⟨g, cap, cur, rfl, hb, hg, hn, hm, hs, ht⟩
 ·have hx : xs = [] := List.eq_nil_of_length_eq_zero h0
  subst hx
  refine (Tryz.slices_Sort_int_none none 0 w).mono ?_
  rintro e w' ⟨rfl, rfl⟩
  exact ⟨rfl, by simpa using ho, grown_refl _ _⟩
 ·rw [Nat.mul_one] at ht
  refine (Tryz.slices_Sort_int g 0 cap xs w (holds_of_blockI hg ht) (Array.getElem?_eq_some_iff.1 hg).1 (by omega)).mono ?_
  rintro e w' ⟨rfl, n, os, rfl⟩
  exact ⟨rfl, ownsRow_sortedI (List.length_mergeSort xs) hb hg hn hm hs, grownBy_sortedI _⟩

theorem grownBy_put {α : Type} [Inhabited α] {enc : α → Value} {w : World} {g q : Nat} (d : Array α) : w.grownBy (Go.Sort.putRow enc (Go.Sort.ahead w q) g 0 d) (some g) := by
 refine ⟨rfl, rfl, rfl, by simp [Go.Sort.putRow, Go.Sort.mapBlock, Go.Sort.ahead], fun k hk hne => ?_⟩
 have : g ≠ k := fun e => hne (by rw [e])
 simp [Go.Sort.putRow, Go.Sort.mapBlock, Go.Sort.ahead, Array.getElem?_modify, this]

theorem Compact_own (base : Nat) (v : Value) (xs : List Int) (w : World) (ho : w.ownsRow base 2 1 v xs.length (xs.map (Value.int .i64))) :
  Calls Tryz.prog 147 #[v] w fun e w' => ∃ v', e = .returned v' ∧ w'.ownsRow base 2 1 v' (Lib.compact xs).length ((Lib.compact xs).map (Value.int .i64)) ∧ w.grownBy w' v.ownBlock := by
 have hle := Lib.compact_length_le xs
 rcases ho.2 with ⟨rfl, h0⟩ | ⟨g, cap, cur, rfl, hb, hg, hn, hm, hs, ht⟩
 ·have hx : xs = [] := List.eq_nil_of_length_eq_zero h0
  subst hx
  refine (Tryz.slices_Compact_int_empty none 0 w).mono ?_
  rintro e w' ⟨rfl, rfl⟩
  exact ⟨_, rfl, by simpa [Lib.compact, Lib.compactUpTo] using ho, grown_refl _ _⟩
 ·rw [Nat.mul_one] at ht
  have hm2 : cap ≤ 9223372036854775807 := by simpa [maxLen] using hm
  refine (Tryz.slices_Compact_int g 0 cap xs w (holds_of_blockI hg ht) (by omega) hn).mono ?_
  rintro e w' ⟨rfl, q, rfl⟩
  have hc := Lib.ownsRow_putRow (q := q) (k := (Lib.compact xs).length) (ys := Lib.compact xs ++ List.replicate (xs.length - (Lib.compact xs).length) 0) ho (by simp; omega) hle
  rw [List.take_left] at hc
  exact ⟨_, rfl, hc, grownBy_put _⟩

theorem Clone_own (lo : Nat) (v : Value) (xs : List Int) (w : World) (hv : SliceK 1 encI lo w v xs) (hz : xs.length ≤ 1048576) :
  Calls Tryz.prog 65 #[v] w fun e w' => ∃ v', e = .returned v' ∧ w'.ownsRow w.heap.size 2 1 v' xs.length (xs.map (Value.int .i64)) ∧ Below w.heap.size w w' := by
 obtain ⟨a, c, rfl, hn, hc, hrow⟩ := hv
 cases a with
 | none =>
  have h0 : xs.length = 0 := by
   rcases hrow with h | ⟨b, o, h, -⟩
   ·exact h
   ·cases h
  have hx : xs = [] := List.eq_nil_of_length_eq_zero h0
  subst hx
  refine (Tryz.slices_Clone_int_nil _ _ w).mono ?_
  rintro e w' ⟨rfl, rfl⟩
  exact ⟨_, rfl, World.ownsRow_nil _ _ _ _, Below.refl _ _⟩
 | some a =>
  rcases hrow with h0 | ⟨b, o, h, -, hb, hcell⟩
  ·have hx : xs = [] := List.eq_nil_of_length_eq_zero h0
   subst hx
   refine (Tryz.slices_Clone_int_zero a c w).mono ?_
   rintro e w' ⟨v', rfl, ho, -, hb⟩
   exact ⟨v', rfl, ho, hb⟩
  ·cases h
   refine (Tryz.slices_Clone_int b o xs.length c xs w (Nat.le_refl _) (by omega) (fun j hj => ?_)).mono ?_
   ·have := hcell j hj 0 (by omega)
    rw [List.getD_eq_getElem?_getD, List.getElem?_eq_getElem hj]
    simpa [encI] using this
   ·rintro e w' ⟨v', rfl, ho, -, hb2⟩
    rw [List.take_length] at ho
    exact ⟨v', rfl, ho, hb2⟩

end Go.Proofs.YtdkbbknhighebaaGreatDoor

namespace Go.Proofs.YtdkbbknhighebaaGreatDoor
open Go Go.RowKit


def mkB (l : List UInt8) : ByteArray := ⟨l.toArray⟩
theorem mkB_data (b : ByteArray) : mkB b.data.toList = b := by cases b; simp [mkB]
def labSet (ls : List ByteArray) : List ByteArray := (Lib.compact ((ls.map (·.data.toList)).mergeSort fun x y => !lessL y x)).map mkB
theorem labSet_eq {ls m : List ByteArray} (hm : (m.map (·.data.toList)).Pairwise fun a b => lessL a b = true) (hmem : ∀ x, x ∈ ls ↔ x ∈ m) : labSet ls = m := by
 have hs : ((ls.map (·.data.toList)).mergeSort fun x y => !lessL y x).Pairwise fun a b => a = b ∨ lessL a b = true := by
  have h1 := List.pairwise_mergeSort (le := fun x y : List UInt8 => !lessL y x) (fun a b c h1 h2 => by
   simp only [Bool.not_eq_true'] at *
   have := (swo_of_total lessL_irrefl lessL_trans lessL_tri).ntrans c b a h2 h1
   exact this) (fun a b => by
   cases h : lessL b a with
   | false => simp
   | true =>
    cases h2 : lessL a b with
    | false => simp
    | true => have := lessL_trans a b a h2 h; rw [lessL_irrefl] at this; cases this) (ls.map (·.data.toList))
  refine h1.imp fun {a b} h => ?_
  simp only [Bool.not_eq_true'] at h
  cases h2 : lessL a b with
  | true => exact .inr rfl
  | false => exact .inl (lessL_tri a b h2 h)
 obtain ⟨h1, h2⟩ := compact_is (fun a b : List UInt8 => lessL a b = true) lessL_trans _ hs
 have h3 : Lib.compact ((ls.map (·.data.toList)).mergeSort fun x y => !lessL y x) = m.map (·.data.toList) := by
  refine rise_unique (fun a b : List UInt8 => lessL a b = true) (fun a h => by rw [lessL_irrefl] at h; cases h) (fun a b h k => by have := lessL_trans a b a h k; rw [lessL_irrefl] at this; cases this) _ _ h1 hm fun x => ?_
  rw [h2, List.mem_mergeSort, List.mem_map, List.mem_map]
  constructor
  ·rintro ⟨b, hb, rfl⟩; exact ⟨b, (hmem b).1 hb, rfl⟩
  ·rintro ⟨b, hb, rfl⟩; exact ⟨b, (hmem b).2 hb, rfl⟩
 unfold labSet
 rw [h3, List.map_map]
 have : (mkB ∘ fun x : ByteArray => x.data.toList) = id := by funext b; exact mkB_data b
 rw [this, List.map_id]

theorem enters_cmpE : ∀ args w, (callFunc 33 args).run Tryz.prog w = .ok (.enter 33 args) w := enters_of Tryz.func33 (by kernel_rfl) rfl

end Go.Proofs.YtdkbbknhighebaaGreatDoor

namespace Go.Proofs.YtdkbbknhighebaaGreatDoor
open Go Go.RowKit

section
variable {P : Program} {ops : Array Oper} {md : Region.Mode} {C : World → Prop}

/-- Whatever order is picked, of the operations ahead of number n; then L. -/
def headAny (P : Program) (md : Region.Mode) (ops : Array Oper) (C : World → Prop) (n : Nat) (L : Array Bool → Act → Prop) : Nat → Array Bool → Act → Prop
 | 0, listed, a => L listed a
 | f + 1, listed, a => Region.ready md ops listed ≠ [] ∧ ∀ i ∈ Region.ready md ops listed, i < n ∧ qOp P ops C i (headAny P md ops C n L f (listed.setIfInBounds i true)) a

theorem wpAny_of_headAny {n g : Nat} {L : Array Bool → Act → Prop} {Q : Exit → Act → World → Prop} (hL : ∀ listed a w, C w → L listed a → wpAny P md ops Q g listed a w) (f : Nat) :
  ∀ (listed : Array Bool) (a : Act) (w : World), C w → headAny P md ops C n L f listed a → wpAny P md ops Q (f + g) listed a w := by
 induction f with
 | zero => intro listed a w hw h; rw [Nat.zero_add]; exact hL _ _ _ hw h
 | succ f ih =>
  intro listed a w hw h
  rw [show f + 1 + g = (f + g) + 1 from by omega]
  exact ⟨fun h0 => absurd h0 h.1, fun i hi => wpOp_of_qOp hw (fun a' w' hw' h' => ih _ a' w' hw' h') (h.2 i hi).2⟩

theorem headAny_first {n i : Nat} {oi : Oper} {v : Value} {L : Array Bool → Act → Prop} (hi : ops[i]? = some oi) (hsel : ∀ (j : Nat) (o : Oper) cs b, ops[j]? = some o → o.op ≠ .select cs b)
  (hs : Region.sinkB md ops n = true) (hc : Region.chainB md ops n = true) (hn : n < ops.size) (hin : i < n) (hdone : ∀ listed a, L listed a → ∀ j ∈ Region.ready md ops listed, n ≤ j) (f : Nat) :
  ∀ (listed : Array Bool) (a : Act), HeadInv md ops n listed →
   (∀ j oj, ops[j]? = some oj → j ≠ i → listed.getD j true = false → (∀ e ∈ oj.after, Region.binds md e = true → e.on ≠ i) → oi.apart ops oj = true) →
   i ∈ Region.ready md ops listed → YieldsIn P ops C oi v a → headAny P md ops C n L f (listed.setIfInBounds i true) (a.put oi.dst v) → headAny P md ops C n L (f + 1) listed a := by
 have behind : ∀ listed : Array Bool, HeadInv md ops n listed → i ∈ Region.ready md ops listed → ∀ j ∈ Region.ready md ops listed, j < n := by
  intro listed inv hr j hj
  rcases Nat.lt_or_ge j n with h | h
  ·exact h
  ·exact absurd hj (tail_waits hs hc hn inv _ i rfl hin (mem_ready.1 hr).1 j h)
 induction f with
 | zero =>
  intro listed a inv _ hr hy H
  refine ⟨fun h => (by rw [h] at hr; cases hr), fun j hj => ?_⟩
  have hjn := behind listed inv hr j hj
  refine ⟨hjn, ?_⟩
  by_cases hji : j = i
  ·subst hji; exact hy.qOp hi H
  ·have := hdone _ _ H j (ready_mono hj hji)
   omega
 | succ f ih =>
  intro listed a inv hfree hr hy H
  refine ⟨fun h => (by rw [h] at hr; cases hr), fun j hj => ?_⟩
  have hjn := behind listed inv hr j hj
  refine ⟨hjn, ?_⟩
  by_cases hji : j = i
  ·subst hji; exact hy.qOp hi H
  ·obtain ⟨hjun, oj, hoj, hall⟩ := mem_ready.1 hj
   have hnot : ∀ e ∈ oj.after, Region.binds md e = true → e.on ≠ i := fun e he hb heq => by
    have h1 := hall e he hb
    rw [heq, getD_both (mem_ready.1 hr).1] at h1
    cases h1
   have hrest := qOp_put hoj (hfree j oj hoj hji hjun hnot) (fun cs b => hsel i oi cs b hi) (fun cs b => hsel j oj cs b hoj) hy (H.2 j (ready_mono hj hji)).2
   refine qOp_mono (fun a' h3 => ih (listed.setIfInBounds j true) a' (inv.set hj hjn) (fun k ok hk hki hun hno => ?_) (ready_mono hr (Ne.symm hji)) h3.1 ?_) hrest
   ·refine hfree k ok hk hki ?_ hno
    by_cases hjk : j = k
    ·subst hjk; exact hjun
    ·rw [getD_set_ne true hjk] at hun; exact hun
   ·rw [Array.setIfInBounds_comm _ _ hji]
    exact h3.2

theorem headAny_lex {n g : Nat} {L : Act → Prop} (hsel : Region.noSelect ops = true) (hs : Region.sinkB md ops n = true) (hc : Region.chainB md ops n = true) (hn : n < ops.size) (l : List Oper) :
  ∀ (k : Nat) (listed : Array Bool) (a : Act), (∀ j, j < l.length → l[j]? = ops[k + j]?) → k + l.length = n → HeadInv md ops n listed → Region.lexHead md ops g l.length k listed = true → wpQuiet P ops C L l a →
   headAny P md ops C n (fun listed' a' => Region.seqB md ops g n listed' = true ∧ L a') l.length listed a := by
 induction l with
 | nil =>
  intro k listed a _ hk _ hB h
  obtain rfl : k = n := by simpa using hk
  exact ⟨by simpa [Region.lexHead] using hB, h⟩
 | cons o l ih =>
  intro k listed a hl hk inv hB h
  have h0 : ops[k]? = some o := by simpa using (hl 0 (by simp)).symm
  simp only [List.length_cons, Region.lexHead, Bool.and_eq_true] at hB
  have hkn : k < n := by simp only [List.length_cons] at hk; omega
  have hr : k ∈ Region.ready md ops listed := by simpa using hB.1.1
  obtain ⟨v, hy, hK⟩ := yieldsIn_of_qOp h0 (show qOp P ops C k (wpQuiet P ops C L l) a by unfold qOp; simp only [h0]; exact h)
  exact headAny_first h0 (Region.noSelect_spec hsel) hs hc hn hkn (fun _ _ hL => seqB_ready hL.1) l.length listed a inv (Region.free_spec h0 hB.1.2) hr hy
   (ih (k + 1) _ _ (fun j hj => by have := hl (j + 1) (by simp; omega); simpa [Nat.add_assoc, Nat.add_comm 1 j] using this) (by simp only [List.length_cons] at hk; omega) (inv.set hr hkn) hB.2 hK)

/-- The operations ahead of number n are quiet in the class C; the others come in their order, from whatever world of the class. -/
theorem wp_region_quiet_tail {id : Nat} {Q : Exit → Act → World → Prop} {a : Act} {w : World} {l : List Oper} (n : Nat) (hm : P.follows .mixedOrders = true) (hB : Region.lexTailB .any l.toArray n = true) (hC : C { w with drawn := w.drawn + 1 })
  (h : wpQuiet P l.toArray C (fun a' => ∀ w', C w' → wpList P l.toArray Q (l.drop n) a' w') (l.take n) a) : (Code.region id l.toArray true).wp P Q a w := by
 simp only [Region.lexTailB, Bool.and_eq_true, decide_eq_true_eq] at hB
 obtain ⟨⟨⟨⟨hsel, hn⟩, hs⟩, hc⟩, hlex⟩ := hB
 have hn' : n < l.length := by simpa using hn
 have htl : (l.take n).length = n := by simp; omega
 have hdl : (l.drop n).length = l.toArray.size - n := by simp
 have inv0 : HeadInv .any l.toArray n (Array.replicate l.toArray.size false) :=
  ⟨by simp, fun j oj _ hl => (by rw [getD_replicate_false] at hl; cases hl), fun t _ ht => getD_in (by simpa using ht) (getD_replicate_false _ _)⟩
 have H := headAny_lex (C := C) (md := .any) (g := l.toArray.size - n) hsel hs hc hn (l.take n) 0 _ a (fun j hj => by
  have hj' : j < n := by rw [htl] at hj; exact hj
  simp [hj']) (by simpa using htl) inv0 (by rw [htl]; exact hlex) h
 refine wp_region_any hm ?_
 have := wpAny_of_headAny (Q := Q) (g := l.toArray.size - n) (fun listed a' w' hw' hL => by
  have := wpAny_of_seq (md := .any) (Q' := Q) (l.drop n) n listed a' w' (fun j => by simp [List.getElem?_drop]) (by rw [hdl]; exact hL.1) (hL.2 w' hw')
  rwa [hdl] at this) _ _ _ _ hC H
 rw [htl, show n + (l.toArray.size - n) = l.toArray.size from by omega] at this
 exact this
end

/-- At the class of the later worlds. -/
theorem wp_region_later_tail {P : Program} {id : Nat} {Q : Exit → Act → World → Prop} {a : Act} {w : World} {l : List Oper} (n : Nat) (hm : P.follows .mixedOrders = true) (hB : Region.lexTailB .any l.toArray n = true)
  (h : wpQuiet P l.toArray (fun w' => ∃ g : Later w, w' = g.w) (fun a' => ∀ w', (∃ g : Later w, w' = g.w) → wpList P l.toArray Q (l.drop n) a' w') (l.take n) a) : (Code.region id l.toArray true).wp P Q a w :=
 wp_region_quiet_tail (C := fun w' => ∃ g : Later w, w' = g.w) n hm hB ⟨⟨_, (Below.refl _ w).drew⟩, rfl⟩ h

end Go.Proofs.YtdkbbknhighebaaGreatDoor

namespace Go.Proofs.YtdkbbknhighebaaGreatDoor
open Go Go.RowKit Go.Sort


instance : Inhabited Edge := ⟨⟨0, 0, 0⟩⟩
def RiseE (es : List Edge) : Prop := es.Pairwise fun a b => edgeLess a b = true

theorem holdsE_of_own {w : World} {base g cap n : Nat} {es : List Edge} (h : w.ownsRow base 47 3 (.slice (some ⟨g, 0, none⟩) n cap) n (es.flatMap encE)) (hn : n = es.length) : HoldsK encE 3 w g 0 es.toArray := by
 subst hn
 intro t ht
 have ht' : t < es.length * 3 := by simpa using ht
 refine ⟨?_, h.frozenAt _⟩
 have hs : SliceK 3 encE base w (.slice (some ⟨g, 0, none⟩) es.length cap) es := SliceK.of_owns encE_len rfl h
 obtain ⟨a, c, e, -, -, hrow⟩ := hs
 simp only [Value.slice.injEq, true_and] at e
 obtain ⟨rfl, rfl⟩ := e
 rcases hrow with h0 | ⟨b, o, e, -, -, hc⟩
 ·omega
 ·simp only [Option.some.injEq, Addr.mk.injEq, and_true] at e
  obtain ⟨rfl, rfl⟩ := e
  have hi : t / 3 < es.length := by omega
  have h1 := hc (t / 3) hi (t % 3) (by omega)
  rw [show 0 + t / 3 * 3 + t % 3 = 0 + t from by omega] at h1
  rw [h1]
  rw [get_flatK encE 3 es.toArray t (by simpa using ht')]
  have h2 : es.toArray[t / 3]! = es[t / 3] := by rw [getElem!_pos es.toArray (t / 3) (by simpa using hi)]; simp
  rw [h2]
  have h3 : t % 3 < (encE es[t / 3]).length := by rw [encE_len]; omega
  rw [List.getElem?_eq_getElem h3]
  simp [getElem!_pos, h3]

theorem isAggE (w : World) : (isAgg 47).run Tryz.prog w = .ok true w := by kernel_rfl
theorem sizeOfE (w : World) : (Go.sizeOf 47).run Tryz.prog w = .ok 3 w := by kernel_rfl

theorem eqEdge (x y : Edge) (w : World) : (binOp .eql 47 (.agg #[.int .i64 x.src, .int .i64 x.lab, .int .i64 x.dst]) (.agg #[.int .i64 y.src, .int .i64 y.lab, .int .i64 y.dst])).run Tryz.prog w = .ok (.bool (x.src == y.src && x.lab == y.lab && x.dst == y.dst)) w := by
 have u3 := Tryz.underlying2
 have hS : Tryz.prog.underlying 47 = some (.struct (Tryz.prog.fieldsOf 47)) := by kernel_rfl
 have hp : Tryz.prog.stoodInHeld 47 = false := by kernel_rfl
 rw [run_eql_struct, show (10000 : Nat) = 9999 + 1 from rfl, run_equalIn_agg w 9999 47 _ _ hS hp]
 simp only [Program.fieldsOf, Tryz.underlying47]
 go_simp
 by_cases h1 : x.src = y.src <;> by_cases h2 : x.lab = y.lab <;> by_cases h3 : x.dst = y.dst <;> simp [h1, h2, h3]
theorem guardEdge (op : BinOp) (a b : Operand) (xs ys : Array Value) (w : World) : (eqGuard op 47 a b (.agg xs) (.agg ys)).run Tryz.prog w = .ok () w := run_eqGuard_agg w op 47 a b xs ys (by kernel_rfl)
end Go.Proofs.YtdkbbknhighebaaGreatDoor

namespace Go.Proofs.YtdkbbknhighebaaGreatDoor
open Go Go.RowKit


theorem nodup_subP {α : Type} [BEq α] [LawfulBEq α] : ∀ {a b : List α}, a.Nodup → (∀ x ∈ a, x ∈ b) → a.length ≤ b.length
 | [], b, _, _ => Nat.zero_le _
 | x :: a, b, hd, hs => by
  rw [List.nodup_cons] at hd
  have h1 : x ∈ b := hs x (by simp)
  have h2 := nodup_subP (a := a) (b := b.erase x) hd.2 (fun y hy => by
   have : y ≠ x := fun e => hd.1 (e ▸ hy)
   exact (List.mem_erase_of_ne this).2 (hs y (by simp [hy])))
  have h3 := List.length_erase_of_mem h1
  have h4 := List.length_pos_of_mem h1
  simp only [List.length_cons]
  omega
def Stp (X : Lts) (x l y : Int) : Prop := (⟨x, l, y⟩ : Edge) ∈ X.edges
/-- A relation in which each step is answered. -/
def SimR (a b : Lts) (R : Int → Int → Prop) : Prop := ∀ x y, R x y → ∀ l u, Stp a x l u → ∃ v, Stp b y l v ∧ R u v
/-- Some simulation has the pair. -/
def Le (a b : Lts) (x y : Int) : Prop := ∃ R, SimR a b R ∧ R x y
theorem Le.refl (a : Lts) (x : Int) : Le a a x x := ⟨Eq, fun x y h l u hs => ⟨u, by rw [← h]; exact hs, rfl⟩, rfl⟩
theorem Le.trans {a b c : Lts} {x y z : Int} (h : Le a b x y) (k : Le b c y z) : Le a c x z := by
 obtain ⟨R, hR, hxy⟩ := h
 obtain ⟨Q, hQ, hyz⟩ := k
 refine ⟨fun x z => ∃ y, R x y ∧ Q y z, fun x z ⟨y, h1, h2⟩ l u hs => ?_, y, hxy, hyz⟩
 obtain ⟨v, hv, huv⟩ := hR x y h1 l u hs
 obtain ⟨w, hw, hvw⟩ := hQ y z h2 l v hv
 exact ⟨w, hw, v, huv, hvw⟩
theorem Le.sim (a b : Lts) : SimR a b (Le a b) := fun x y ⟨R, hR, hxy⟩ l u hs => by
 obtain ⟨v, hv, huv⟩ := hR x y hxy l u hs
 exact ⟨v, hv, R, hR, huv⟩
theorem stp_lt {X : Lts} (hv : Valid X) {x l y : Int} (h : Stp X x l y) : EdgeOk X ⟨x, l, y⟩ := by
 obtain ⟨i, hi, e⟩ := List.mem_iff_getElem.1 h
 rw [← e]
 exact hv.edge i hi
theorem labAt_same {a b : Lts} (ha : Valid a) (hl : a.labels = b.labels) {e f : Edge} (he : EdgeOk a e) (hf : EdgeOk b f) (h : (labAt b f).toList = (labAt a e).toList) : f.lab = e.lab := by
 have h1 := he.l0
 have h2 := he.l1
 have h3 := hf.l0
 have h4 := hf.l1
 rw [← hl] at h4
 unfold labAt at h
 rw [← hl] at h
 have hg : ∀ i (h : i < a.labels.length), a.labels.getD i ByteArray.empty = a.labels[i] := fun i h => by rw [List.getD_eq_getElem?_getD, List.getElem?_eq_getElem h]; rfl
 rw [hg _ (by omega), hg _ (by omega)] at h
 have := labels_inj ha.labels f.lab.toNat e.lab.toNat (by omega) (by omega) h
 omega
noncomputable def leB (a b : Lts) : PairSet := fun x y => @decide (((0 ≤ x ∧ x < a.states) ∧ 0 ≤ y ∧ y < b.states) ∧ Le a b x y) (Classical.propDecidable _)
theorem leB_iff {a b : Lts} {x y : Int} : leB a b x y = true ↔ ((0 ≤ x ∧ x < a.states) ∧ 0 ≤ y ∧ y < b.states) ∧ Le a b x y := by
 unfold leB
 exact @decide_eq_true_iff _ (Classical.propDecidable _)
/-- The greatest simulation has just the pairs of states that some simulation has. -/
theorem great_le {a b : Lts} (ha : Valid a) (hb : Valid b) (hl : a.labels = b.labels) {N : PairSet} (h : Great a b (allG a b) N) {x y : Int} : N x y = true ↔ ((0 ≤ x ∧ x < a.states) ∧ 0 ≤ y ∧ y < b.states) ∧ Le a b x y := by
 constructor
 ·intro hn
  refine ⟨allG_iff.1 (h.sim.low x y hn), fun x y => N x y = true, fun x y hxy l u hs => ?_, hn⟩
  have h1 := h.sim.ans x y hxy
  unfold ansG at h1
  rw [List.all_eq_true] at h1
  have h2 := h1 _ hs
  simp only [beq_self_eq_true, Bool.not_true, Bool.false_or, List.any_eq_true, Bool.and_eq_true, beq_iff_eq] at h2
  obtain ⟨f, hf, ⟨hf1, hf2⟩, hf3⟩ := h2
  have he := stp_lt ha hs
  have hfo : EdgeOk b f := by
   obtain ⟨i, hi, e⟩ := List.mem_iff_getElem.1 hf
   rw [← e]
   exact hb.edge i hi
  have h3 := labAt_same ha hl he hfo hf2
  refine ⟨f.dst, ?_, hf3⟩
  unfold Stp
  have e : (⟨y, l, f.dst⟩ : Edge) = f := by
   cases f
   simp only at hf1 h3 ⊢
   rw [hf1, h3]
  rw [e]
  exact hf
 ·rintro ⟨hr, hle⟩
  refine h.all (leB a b) ⟨fun x y hxy => ?_, fun x y hxy => ?_⟩ x y (leB_iff.2 ⟨hr, hle⟩)
  ·rw [leB_iff] at hxy
   exact allG_iff.2 hxy.1
  ·rw [leB_iff] at hxy
   unfold ansG
   rw [List.all_eq_true]
   intro e he
   by_cases hs : e.src = x
   ·obtain ⟨v, hv, huv⟩ := Le.sim a b x y hxy.2 e.lab e.dst (by unfold Stp; rw [← hs]; exact he)
    have hok : EdgeOk a e := by
     obtain ⟨i, hi, e9⟩ := List.mem_iff_getElem.1 he
     rw [← e9]
     exact ha.edge i hi
    have hvo := stp_lt hb hv
    rw [Bool.or_eq_true]
    refine .inr (List.any_eq_true.2 ⟨⟨y, e.lab, v⟩, hv, ?_⟩)
    rw [Bool.and_eq_true, Bool.and_eq_true, beq_iff_eq, beq_iff_eq]
    refine ⟨⟨rfl, ?_⟩, leB_iff.2 ⟨⟨⟨hok.d0, hok.d1⟩, hvo.d0, hvo.d1⟩, huv⟩⟩
    unfold labAt
    rw [hl]
   ·rw [Bool.or_eq_true]
    refine .inl ?_
    rw [Bool.not_eq_true', beq_eq_false_iff_ne]
    exact hs

/-- The part of some states, in order. -/
structure IsPart (t r : Lts) (L : List Int) : Prop where
 states : r.states = L.length
 init : 0 ≤ r.initial ∧ r.initial < L.length
 initL : L.getD r.initial.toNat 0 = t.initial
 labels : r.labels = t.labels
 edges : ∀ e : Edge, e ∈ r.edges ↔ (0 ≤ e.src ∧ e.src < L.length) ∧ (0 ≤ e.dst ∧ e.dst < L.length) ∧ (⟨L.getD e.src.toNat 0, e.lab, L.getD e.dst.toNat 0⟩ : Edge) ∈ t.edges
 rise : RiseE r.edges
 few : r.edges.length ≤ t.edges.length
/-- States that no edge leaves. -/
structure Closed (t : Lts) (L : List Int) : Prop where
 low : ∀ x ∈ L, 0 ≤ x ∧ x < t.states
 asc : L.Pairwise (· < ·)
 out : ∀ e ∈ t.edges, e.src ∈ L → e.dst ∈ L
theorem asc_nodup {L : List Int} (h : L.Pairwise (· < ·)) : L.Nodup := by
 rw [List.nodup_iff_pairwise_ne]
 exact h.imp fun {a b} h e => by omega
theorem valid_of {t r : Lts} (ht : Valid t) (h1 : 1 ≤ r.states) (h2 : r.states ≤ t.states) (hi : 0 ≤ r.initial ∧ r.initial < r.states) (hl : r.labels = t.labels) (hf : r.edges.length ≤ t.edges.length) (hr : RiseE r.edges)
  (he : ∀ e ∈ r.edges, (0 ≤ e.src ∧ e.src < r.states) ∧ (0 ≤ e.dst ∧ e.dst < r.states) ∧ 0 ≤ e.lab ∧ e.lab < t.labels.length) : Valid r := by
 refine ⟨h1, by have := ht.st1; omega, hi.1, hi.2, by rw [hl]; exact ht.labels, by have := ht.most; omega, fun i hi => ?_, fun i hi => List.pairwise_iff_getElem.1 hr i (i + 1) (by omega) hi (by omega)⟩
 obtain ⟨a, b, c⟩ := he _ (List.getElem_mem hi)
 exact ⟨a.1, a.2, b.1, b.2, c.1, by rw [hl]; exact c.2⟩
theorem mem_getDL {L : List Int} {i : Int} (h : 0 ≤ i ∧ i < L.length) : L.getD i.toNat 0 ∈ L := by
 rw [List.getD_eq_getElem?_getD, List.getElem?_eq_getElem (by omega)]
 exact List.getElem_mem _
theorem IsPart.valid {t r : Lts} {L : List Int} (ht : Valid t) (h : IsPart t r L) (hc : Closed t L) : Valid r := by
 have hlen : L.length ≤ t.states.toNat := by
  have h1 := nodup_lt t.states.toNat (L.map Int.toNat) (by
   rw [List.nodup_iff_pairwise_ne, List.pairwise_map]
   refine List.Pairwise.imp_of_mem (fun {a b} ha hb hab e => ?_) hc.asc
   have := hc.low a ha
   have := hc.low b hb
   omega) (fun x hx => by
   obtain ⟨y, hy, rfl⟩ := List.mem_map.1 hx
   have := hc.low y hy
   omega)
  rwa [List.length_map] at h1
 have hs := h.states
 have hi := h.init
 refine valid_of ht (by omega) (by omega) (by omega) h.labels h.few h.rise fun e he => ?_
 obtain ⟨h1, h2, h3⟩ := (h.edges e).1 he
 have h4 := stp_lt ht h3
 exact ⟨by omega, by omega, h4.l0, h4.l1⟩
/-- From the part into the whole, and back. -/
theorem IsPart.up {t r : Lts} {L : List Int} (h : IsPart t r L) : SimR r t fun i x => (0 ≤ i ∧ i < L.length) ∧ x = L.getD i.toNat 0 := by
 rintro i x ⟨hi, rfl⟩ l u hs
 obtain ⟨h1, h2, h3⟩ := (h.edges _).1 hs
 exact ⟨_, h3, h2, rfl⟩
theorem IsPart.down {t r : Lts} {L : List Int} (h : IsPart t r L) (hc : Closed t L) : SimR t r fun x i => (0 ≤ i ∧ i < L.length) ∧ x = L.getD i.toNat 0 := by
 rintro x i ⟨hi, rfl⟩ l u hs
 have hm : u ∈ L := hc.out _ hs (mem_getDL hi)
 obtain ⟨k, hk, hku⟩ := List.mem_iff_getElem.1 hm
 have hg : L.getD (k : Int).toNat 0 = u := by
  rw [Int.toNat_natCast, List.getD_eq_getElem?_getD, List.getElem?_eq_getElem hk]
  exact hku
 refine ⟨(k : Int), (h.edges _).2 ⟨hi, ⟨by show (0 : Int) ≤ (k : Int); omega, by show (k : Int) < _; omega⟩, ?_⟩, ⟨by omega, by omega⟩, hg.symm⟩
 show (⟨L.getD i.toNat 0, l, L.getD (k : Int).toNat 0⟩ : Edge) ∈ t.edges
 rw [hg]
 exact hs
theorem IsPart.le {t r : Lts} {L : List Int} (h : IsPart t r L) (hc : Closed t L) {i : Int} (hi : 0 ≤ i ∧ i < L.length) : Le r t i (L.getD i.toNat 0) ∧ Le t r (L.getD i.toNat 0) i :=
 ⟨⟨_, h.up, hi, rfl⟩, ⟨_, h.down hc, hi, rfl⟩⟩
theorem IsPart.le_iff {t r : Lts} {L : List Int} (h : IsPart t r L) (hc : Closed t L) {i j : Int} (hi : 0 ≤ i ∧ i < L.length) (hj : 0 ≤ j ∧ j < L.length) : Le r r i j ↔ Le t t (L.getD i.toNat 0) (L.getD j.toNat 0) :=
 ⟨fun k => ((h.le hc hi).2.trans k).trans (h.le hc hj).1, fun k => ((h.le hc hi).1.trans k).trans (h.le hc hj).2⟩

/-- The quotient by states that simulate each other. -/
structure IsQuot (r q : Lts) (p : List Int) : Prop where
 len : p.length = r.states.toNat
 low : ∀ x, 0 ≤ x → x < r.states → 0 ≤ p.getD x.toNat 0 ∧ p.getD x.toNat 0 < q.states
 onto : ∀ c, 0 ≤ c → c < q.states → ∃ x, (0 ≤ x ∧ x < r.states) ∧ p.getD x.toNat 0 = c
 same : ∀ x y, (0 ≤ x ∧ x < r.states) → (0 ≤ y ∧ y < r.states) → (p.getD x.toNat 0 = p.getD y.toNat 0 ↔ Le r r x y ∧ Le r r y x)
 init : q.initial = p.getD r.initial.toNat 0
 labels : q.labels = r.labels
 edges : ∀ e : Edge, e ∈ q.edges ↔ ∃ f ∈ r.edges, e = ⟨p.getD f.src.toNat 0, f.lab, p.getD f.dst.toNat 0⟩
 rise : RiseE q.edges
 few : q.edges.length ≤ r.edges.length
 states : 1 ≤ q.states ∧ q.states ≤ r.states
theorem IsQuot.valid {r q : Lts} {p : List Int} (hr : Valid r) (h : IsQuot r q p) : Valid q := by
 have h1 := h.low r.initial hr.in0 hr.in1
 have hst := h.states
 refine valid_of hr hst.1 hst.2 (by rw [h.init]; exact h1) h.labels h.few h.rise fun e he => ?_
 obtain ⟨f, hf, rfl⟩ := (h.edges e).1 he
 have h4 := stp_lt hr (x := f.src) (l := f.lab) (y := f.dst) hf
 exact ⟨h.low _ h4.s0 h4.s1, h.low _ h4.d0 h4.d1, h4.l0, h4.l1⟩
theorem IsQuot.down {r q : Lts} {p : List Int} (hr : Valid r) (h : IsQuot r q p) : SimR r q fun x c => (0 ≤ x ∧ x < r.states) ∧ c = p.getD x.toNat 0 := by
 rintro x c ⟨hx, rfl⟩ l u hs
 have h4 := stp_lt hr hs
 exact ⟨p.getD u.toNat 0, (h.edges _).2 ⟨_, hs, rfl⟩, ⟨h4.d0, h4.d1⟩, rfl⟩
theorem IsQuot.up {r q : Lts} {p : List Int} (hr : Valid r) (h : IsQuot r q p) : SimR q r fun c y => ∃ x, (0 ≤ x ∧ x < r.states) ∧ p.getD x.toNat 0 = c ∧ Le r r x y := by
 rintro c y ⟨x, hx, rfl, hle⟩ l u hs
 obtain ⟨f, hf, e⟩ := (h.edges _).1 hs
 simp only [Edge.mk.injEq] at e
 obtain ⟨e1, rfl, rfl⟩ := e
 have h4 := stp_lt hr (x := f.src) (l := f.lab) (y := f.dst) hf
 have h5 := (h.same x f.src hx ⟨h4.s0, h4.s1⟩).1 e1
 obtain ⟨v, hv, huv⟩ := Le.sim r r f.src y (h5.2.trans hle) f.lab f.dst hf
 exact ⟨v, hv, f.dst, ⟨h4.d0, h4.d1⟩, rfl, huv⟩
theorem IsQuot.le {r q : Lts} {p : List Int} (hr : Valid r) (h : IsQuot r q p) {x : Int} (hx : 0 ≤ x ∧ x < r.states) : Le r q x (p.getD x.toNat 0) ∧ Le q r (p.getD x.toNat 0) x :=
 ⟨⟨_, h.down hr, hx, rfl⟩, ⟨_, h.up hr, x, hx, rfl, Le.refl r x⟩⟩
theorem IsQuot.anti {r q : Lts} {p : List Int} (hr : Valid r) (h : IsQuot r q p) {c d : Int} (hc : 0 ≤ c ∧ c < q.states) (hd : 0 ≤ d ∧ d < q.states) (h1 : Le q q c d) (h2 : Le q q d c) : c = d := by
 obtain ⟨x, hx, rfl⟩ := h.onto c hc.1 hc.2
 obtain ⟨y, hy, rfl⟩ := h.onto d hd.1 hd.2
 refine (h.same x y hx hy).2 ⟨?_, ?_⟩
 ·exact ((h.le hr hx).1.trans h1).trans (h.le hr hy).2
 ·exact ((h.le hr hy).1.trans h2).trans (h.le hr hx).2

/-- The system without its little brothers. -/
def pruneG (q : Lts) (N : PairSet) : Lts := ⟨q.states, q.initial, q.labels, keptG q N⟩
theorem pruneG_valid {q : Lts} (hq : Valid q) (N : PairSet) : Valid (pruneG q N) := by
 have hr : RiseE q.edges := by
  unfold RiseE
  rw [List.pairwise_iff_getElem]
  intro i j hi hj hij
  induction j with
  | zero => omega
  | succ j ih =>
   have h1 := hq.rise j hj
   rcases Nat.lt_or_ge i j with hlt | hge
   ·have h2 := ih (by omega) hlt
    rw [edgeLess_iff] at *
    omega
   ·obtain rfl : i = j := by omega
    exact h1
 refine valid_of hq hq.st0 (Int.le_refl _) ⟨hq.in0, hq.in1⟩ rfl (keptG_le q N) (List.Pairwise.sublist List.filter_sublist hr) fun e he => ?_
 have h4 := stp_lt hq (x := e.src) (l := e.lab) (y := e.dst) (List.mem_filter.1 he).1
 exact ⟨⟨h4.s0, h4.s1⟩, ⟨h4.d0, h4.d1⟩, h4.l0, h4.l1⟩
theorem prune_up {q : Lts} (N : PairSet) : SimR (pruneG q N) q Eq := fun x y h l u hs => ⟨u, by rw [← h]; exact (List.mem_filter.1 hs).1, rfl⟩
/-- Above each end of an edge is the end of an edge that stays. -/
theorem prune_above {q : Lts} (hq : Valid q) {N : PairSet} (hN : Great q q (allG q q) N) {y l : Int} : ∀ (n : Nat) (v : Int), Stp q y l v → ((List.range q.states.toNat).filter fun (z : Nat) => N v (z : Int) && !N (z : Int) v).length ≤ n → ∃ w, Stp (pruneG q N) y l w ∧ Le q q v w := by
 intro n
 induction n with
 | zero =>
  intro v hs hn
  refine ⟨v, List.mem_filter.2 ⟨hs, ?_⟩, Le.refl q v⟩
  rw [Bool.not_eq_true', ← Bool.not_eq_true]
  intro hb
  unfold brother at hb
  rw [List.any_eq_true] at hb
  obtain ⟨o, ho, h2⟩ := hb
  simp only [Bool.and_eq_true, Bool.not_eq_true'] at h2
  have h4 := stp_lt hq (x := o.src) (l := o.lab) (y := o.dst) ho
  have h5 : 0 ≤ o.dst := h4.d0
  have h6 : o.dst < q.states := h4.d1
  have hm : o.dst.toNat ∈ (List.range q.states.toNat).filter fun (z : Nat) => N v (z : Int) && !N (z : Int) v := by
   refine List.mem_filter.2 ⟨List.mem_range.2 (by omega), ?_⟩
   rw [show ((o.dst.toNat : Nat) : Int) = o.dst by omega, h2.1.2, h2.2]
   rfl
  have := List.length_pos_of_mem hm
  omega
 | succ n ih =>
  intro v hs hn
  cases hb : brother q N ⟨y, l, v⟩ with
  | false => exact ⟨v, List.mem_filter.2 ⟨hs, by rw [hb]; rfl⟩, Le.refl q v⟩
  | true =>
   unfold brother at hb
   rw [List.any_eq_true] at hb
   obtain ⟨o, ho, h2⟩ := hb
   simp only [Bool.and_eq_true, Bool.not_eq_true', beq_iff_eq] at h2
   obtain ⟨⟨⟨h3, h4⟩, h5⟩, h6⟩ := h2
   have hok := stp_lt hq (x := o.src) (l := o.lab) (y := o.dst) ho
   have hd0 : 0 ≤ o.dst := hok.d0
   have hd1 : o.dst < q.states := hok.d1
   have hso : Stp q y l o.dst := by
    unfold Stp
    rw [← h3, ← h4]
    exact ho
   have hvo := ((great_le hq hq rfl hN).1 h5)
   obtain ⟨w, hw, hle⟩ := ih o.dst hso (by
    have hsub : ∀ z ∈ (List.range q.states.toNat).filter (fun (z : Nat) => N o.dst (z : Int) && !N (z : Int) o.dst), z ∈ ((List.range q.states.toNat).filter fun (z : Nat) => N v (z : Int) && !N (z : Int) v).erase o.dst.toNat := by
     intro z hz
     rw [List.mem_filter, Bool.and_eq_true, Bool.not_eq_true'] at hz
     obtain ⟨hz1, hz2, hz3⟩ := hz
     have hzo : z ≠ o.dst.toNat := fun e => by
      rw [e, show ((o.dst.toNat : Nat) : Int) = o.dst by omega] at hz2 hz3
      rw [hz2] at hz3
      cases hz3
     refine (List.mem_erase_of_ne hzo).2 (List.mem_filter.2 ⟨hz1, ?_⟩)
     have hoz := (great_le hq hq rfl hN).1 hz2
     have hvz : N v (z : Int) = true := (great_le hq hq rfl hN).2 ⟨⟨hvo.1.1, hoz.1.2⟩, hvo.2.trans hoz.2⟩
     have hzv : N (z : Int) v = false := by
      rw [← Bool.not_eq_true]
      intro h9
      have h10 := (great_le hq hq rfl hN).1 h9
      have h11 : N (z : Int) o.dst = true := (great_le hq hq rfl hN).2 ⟨⟨hoz.1.2, hvo.1.2⟩, h10.2.trans hvo.2⟩
      rw [h11] at hz3
      cases hz3
     rw [hvz, hzv]
     rfl
    have hnd : ((List.range q.states.toNat).filter fun (z : Nat) => N o.dst (z : Int) && !N (z : Int) o.dst).Nodup := List.Pairwise.sublist List.filter_sublist List.nodup_range
    have h1 := nodup_subP hnd hsub
    have hmem : o.dst.toNat ∈ (List.range q.states.toNat).filter fun (z : Nat) => N v (z : Int) && !N (z : Int) v := by
     refine List.mem_filter.2 ⟨List.mem_range.2 (by omega), ?_⟩
     rw [show ((o.dst.toNat : Nat) : Int) = o.dst by omega, h5, h6]
     rfl
    rw [List.length_erase_of_mem hmem] at h1
    omega)
   exact ⟨w, hw, hvo.2.trans hle⟩
theorem prune_down {q : Lts} (hq : Valid q) {N : PairSet} (hN : Great q q (allG q q) N) : SimR q (pruneG q N) (Le q q) := by
 intro x y hxy l u hs
 obtain ⟨v, hv, huv⟩ := Le.sim q q x y hxy l u hs
 obtain ⟨w, hw, hvw⟩ := prune_above hq hN _ v hv (Nat.le_refl _)
 exact ⟨w, hw, huv.trans hvw⟩
theorem prune_le {q : Lts} (hq : Valid q) {N : PairSet} (hN : Great q q (allG q q) N) (x : Int) : Le (pruneG q N) q x x ∧ Le q (pruneG q N) x x := ⟨⟨Eq, prune_up N, rfl⟩, ⟨_, prune_down hq hN, Le.refl q x⟩⟩
theorem prune_iff {q : Lts} (hq : Valid q) {N : PairSet} (hN : Great q q (allG q q) N) {x y : Int} : Le (pruneG q N) (pruneG q N) x y ↔ Le q q x y :=
 ⟨fun h => ((prune_le hq hN x).2.trans h).trans (prune_le hq hN y).1, fun h => ((prune_le hq hN x).1.trans h).trans (prune_le hq hN y).2⟩

/-- The least system for simulation. -/
theorem least_all {t r q m : Lts} {L p L2 : List Int} {N : PairSet} (ht : Valid t) (hr : IsPart t r L) (hc : Closed t L) (hq : IsQuot r q p) (hN : Great q q (allG q q) N) (hm : IsPart (pruneG q N) m L2) (hc2 : Closed (pruneG q N) L2) :
  Valid m ∧ m.labels = t.labels ∧ Le t m t.initial m.initial ∧ Le m t m.initial t.initial ∧ (∀ M, Great m m (allG m m) M → ∀ e ∈ m.edges, brother m M e = false) ∧ ∀ i j, (0 ≤ i ∧ i < m.states) → (0 ≤ j ∧ j < m.states) → Le m m i j → Le m m j i → i = j := by
 have hrv := hr.valid ht hc
 have hqv := hq.valid hrv
 have hpv := pruneG_valid hqv N
 have hmv := hm.valid hpv hc2
 have hri : 0 ≤ r.initial ∧ r.initial < r.states := ⟨hrv.in0, hrv.in1⟩
 have h1 := hr.le hc hr.init
 have h2 := hq.le hrv hri
 have h3 := prune_le hqv hN q.initial
 have h4 := hm.le hc2 hm.init
 rw [hr.initL] at h1
 rw [← hq.init] at h2
 rw [hm.initL] at h4
 have hml : m.labels = t.labels := hm.labels.trans (hq.labels.trans hr.labels)
 have hiff : ∀ {i j : Int}, (0 ≤ i ∧ i < m.states) → (0 ≤ j ∧ j < m.states) → (Le m m i j ↔ Le q q (L2.getD i.toNat 0) (L2.getD j.toNat 0)) := fun {i j} hi hj =>
  (hm.le_iff hc2 (by rw [← hm.states]; exact hi) (by rw [← hm.states]; exact hj)).trans (prune_iff hqv hN)
 have hlow : ∀ {i : Int}, (0 ≤ i ∧ i < m.states) → 0 ≤ L2.getD i.toNat 0 ∧ L2.getD i.toNat 0 < q.states := fun {i} hi => hc2.low _ (mem_getDL (by rw [← hm.states]; exact hi))
 refine ⟨hmv, hml, ?_, ?_, fun M hM e he => ?_, fun i j hi hj hij hji => ?_⟩
 ·exact ((h1.2.trans h2.1).trans h3.2).trans h4.2
 ·exact ((h4.1.trans h3.1).trans h2.2).trans h1.1
 ·rw [← Bool.not_eq_true]
  intro hb
  unfold brother at hb
  rw [List.any_eq_true] at hb
  obtain ⟨o, ho, h5⟩ := hb
  simp only [Bool.and_eq_true, Bool.not_eq_true', beq_iff_eq] at h5
  obtain ⟨⟨⟨h6, h7⟩, h8⟩, h9⟩ := h5
  have he2 := stp_lt hmv (x := e.src) (l := e.lab) (y := e.dst) he
  have ho2 := stp_lt hmv (x := o.src) (l := o.lab) (y := o.dst) ho
  have hed : 0 ≤ e.dst ∧ e.dst < m.states := ⟨he2.d0, he2.d1⟩
  have hod : 0 ≤ o.dst ∧ o.dst < m.states := ⟨ho2.d0, ho2.d1⟩
  have hle := ((great_le hmv hmv rfl hM).1 h8).2
  have hnle : ¬ Le m m o.dst e.dst := fun h => by
   rw [(great_le hmv hmv rfl hM).2 ⟨⟨hod, hed⟩, h⟩] at h9
   cases h9
  obtain ⟨-, -, he3⟩ := (hm.edges e).1 he
  obtain ⟨-, -, ho3⟩ := (hm.edges o).1 ho
  obtain ⟨he4, he5⟩ := List.mem_filter.1 he3
  obtain ⟨ho4, -⟩ := List.mem_filter.1 ho3
  rw [Bool.not_eq_true', ← Bool.not_eq_true] at he5
  apply he5
  unfold brother
  rw [List.any_eq_true]
  refine ⟨_, ho4, ?_⟩
  simp only [Bool.and_eq_true, Bool.not_eq_true', beq_iff_eq]
  refine ⟨⟨⟨by rw [h6], h7⟩, (great_le hqv hqv rfl hN).2 ⟨⟨hlow hed, hlow hod⟩, (hiff hed hod).1 hle⟩⟩, ?_⟩
  rw [← Bool.not_eq_true]
  intro h10
  exact hnle ((hiff hod hed).2 ((great_le hqv hqv rfl hN).1 h10).2)
 ·have h5 := hq.anti hrv (hlow hi) (hlow hj) ((hiff hi hj).1 hij) ((hiff hj hi).1 hji)
  have hil : i.toNat < L2.length := by have := hm.states; omega
  have hjl : j.toNat < L2.length := by have := hm.states; omega
  rw [List.getD_eq_getElem?_getD, List.getD_eq_getElem?_getD, List.getElem?_eq_getElem hil, List.getElem?_eq_getElem hjl] at h5
  have h6 := (List.getElem_inj (asc_nodup hc2.asc)).1 h5
  omega

end Go.Proofs.YtdkbbknhighebaaGreatDoor
