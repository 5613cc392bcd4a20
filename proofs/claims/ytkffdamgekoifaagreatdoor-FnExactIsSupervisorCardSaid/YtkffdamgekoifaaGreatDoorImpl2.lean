/-
  What the implementation's functions on numbers' texts compute: strconv by the shelf's contracts.
-/
import Derived.Test.YtkffdamgekoifaaGreatDoorImpl1
import Derived.Test.YtkffdamgekoifaaGreatDoorShelf
import Derived.WalkSmall
import Derived.Lib.AppendIntMem
namespace Go.Proofs.YtkffdamgekoifaaGreatDoor
open Go Go.RowKit

/-- What the library's own variables hold. -/
structure Glob (w : World) : Prop where
  max : ∃ m, w.cell? ⟨0, 0, none⟩ = some (.int .i64 m)
  syn : ∃ ev, w.cell? ⟨1, 0, none⟩ = some ev ∧ (ev = .nilIface ∨ ∃ te pe, ev = .iface te pe)
  rng : ∃ ev, w.cell? ⟨2, 0, none⟩ = some ev ∧ (ev = .nilIface ∨ ∃ te pe, ev = .iface te pe)
  tab : Lib.TabIs Tryz.prog w "internal/strconv.uint64pow10" .u64 Lib.pow10Tab

theorem Glob.below {w w' : World} (h : Glob w) (hb : Below w.heap.size w w') : Glob w' := by
  obtain ⟨⟨m, h1⟩, ⟨e1, h2, h2'⟩, ⟨e2, h3, h3'⟩, h4⟩ := h
  have hg : Tryz.prog.globalNamed "internal/strconv.uint64pow10" = some 5 := by kernel_rfl
  have hlt : 5 < w.heap.size := by
    have h5 := h4
    unfold Lib.TabIs World.var? at h5
    rw [hg] at h5
    simp only [Option.bind_some] at h5
    rcases Nat.lt_or_ge 5 w.heap.size with h | h
    · exact h
    · rw [Array.getElem?_eq_none h] at h5; simp at h5
  refine ⟨⟨m, keeps hb (World.block_lt_of_cell? w _ h1) h1⟩, ⟨e1, keeps hb (World.block_lt_of_cell? w _ h2) h2, h2'⟩, ⟨e2, keeps hb (World.block_lt_of_cell? w _ h3) h3, h3'⟩, ?_⟩
  exact var?_below hb hg hlt h4

theorem Decimal_any (n : Int) (w : World) (h0 : -9223372036854775808 ≤ n) (h1 : n ≤ 9223372036854775807) (g : Glob w) :
    Calls Tryz.prog 117 #[.int .i64 n] w fun e w' => e = .returned (.string ⟨(Lib.itoa n).toArray⟩) ∧ Below w.heap.size w w' := by
  have G := Lib.hid g.tab
  have H0 := Lib.hid h0
  have H1 := Lib.hid h1
  clear g h0 h1
  go_enter Tryz.func117, Tryz.ntmps117
  go_wp2_with fail
  refine (Tryz.strconv_FormatInt_10 n H0.out H1.out _ G.out).mono ?_
  rintro e w' ⟨rfl, k, os, rfl⟩
  have HB : Hid (Below w.heap.size w (Go.Sort.grow (w.drewN k) os)) := Lib.below_grow _ w (Nat.le_refl _) k os
  go_wp2_with fail
  go_ret
  exact ⟨rfl, HB.out⟩

/-- What ReadDecimal reads. -/
def readDec (l : List UInt8) : Option Int :=
  if 18 < (Lib.trimPrefix l [45]).length then none
  else match Lib.parseIntB 64 l with
    | .ok n => if Lib.itoa n = l then some n else none
    | _ => none

/-- ReadDecimal's answer. -/
def RetDec (l : List UInt8) (w : World) (e : Ending) (w' : World) : Prop := e = .returned (.tuple #[.int .i64 ((readDec l).getD 0), .bool (readDec l).isSome]) ∧ Below w.heap.size w w'

theorem ReadDecimal_any (s : ByteArray) (w : World) (hs : s.size ≤ 1073741824) (g : Glob w) : Calls Tryz.prog 98 #[.string s] w (RetDec s.data.toList w) := by
  have G := Lib.hid g
  clear g
  by_cases h18 : 18 < (Lib.trimPrefix s.data.toList [45]).length
  · have HF : Hid (readDec s.data.toList = none) := by unfold Hid readDec; rw [if_pos h18]
    have HL := Lib.hid h18
    go_enter Tryz.func98, Tryz.ntmps98
    go_wp2_with fail
    refine (Tryz.strings_TrimPrefix s ⟨#[45]⟩ _).mono ?_
    rintro e w' ⟨rfl, rfl⟩
    have h18' : 18 < ((Lib.trimPrefix s.data.toList [45]).length : Int) := by omega
    clear h18
    go_wp2_with fail
    go_ret2
    unfold RetDec
    rw [HF.out]
    exact ⟨rfl, Below.refl _ _⟩
  · have h18' : ¬ 18 < ((Lib.trimPrefix s.data.toList [45]).length : Int) := by omega
    have HR : Hid (readDec s.data.toList = match Lib.parseIntB 64 s.data.toList with
      | .ok n => if Lib.itoa n = s.data.toList then some n else none
      | _ => none) := by unfold Hid readDec; rw [if_neg h18]
    clear h18
    rcases hp : Lib.parseIntB 64 s.data.toList with v | _ | _
    · have HP := Lib.hid hp
      have hbd := Lib.parseIntB_bounds hp
      have HB1 : Hid (-9223372036854775808 ≤ v) := by have := hbd.1; unfold Hid; simpa using this
      have HB2 : Hid (v ≤ 9223372036854775807) := by have := hbd.2; unfold Hid; simp at this; omega
      rw [hp] at HR
      clear hp hbd
      go_enter Tryz.func98, Tryz.ntmps98
      go_wp2_with fail
      refine (Tryz.strings_TrimPrefix s ⟨#[45]⟩ _).mono ?_
      rintro e w' ⟨rfl, rfl⟩
      go_wp2_with fail
      refine (Tryz.strconv_ParseInt_10_at64_ok s (by omega) v HP.out _).mono ?_
      rintro e w1 ⟨rfl, hw1⟩
      have HB3 : Hid (Below w'.heap.size w' w1) := by
        rcases hw1 with rfl | ⟨t, rfl⟩
        · exact Below.refl _ _
        · exact Lib.bytesWorld_below _ _ _
      clear hw1
      go_wp2_with fail
      refine (Decimal_any v _ HB1.out HB2.out (G.out.below HB3.out)).mono ?_
      rintro e w2 ⟨rfl, hb2⟩
      have HB4 := Lib.hid hb2
      clear hb2
      by_cases hq : Lib.itoa v = s.data.toList
      · have HF : Hid (readDec s.data.toList = some v) := by unfold Hid; rw [HR.out, if_pos hq]
        go_wp2_with fail
        go_ret2
        unfold RetDec
        rw [HF.out]
        exact ⟨rfl, HB3.out.trans (HB4.out.mono HB3.out.size)⟩
      · have HF : Hid (readDec s.data.toList = none) := by unfold Hid; rw [HR.out, if_neg hq]
        have hq' : (!Lib.itoa v == s.toList) = true := by rw [Lib.toList_data]; simpa using hq
        go_wp2_with fail
        go_ret2
        unfold RetDec
        rw [HF.out]
        exact ⟨rfl, HB3.out.trans (HB4.out.mono HB3.out.size)⟩
    · have HP := Lib.hid hp
      rw [hp] at HR
      clear hp
      obtain ⟨ev, hv, hev⟩ := G.out.syn
      have HV := Lib.hid hv
      have HE := Lib.hid hev
      clear hv hev
      go_enter Tryz.func98, Tryz.ntmps98
      go_wp2_with fail
      refine (Tryz.strings_TrimPrefix s ⟨#[45]⟩ _).mono ?_
      rintro e w' ⟨rfl, rfl⟩
      go_wp2_with fail
      refine (Any.strconv_ParseInt_10_at64_syntax Tryz.laysC174 s (by omega) HP.out ev _ HV.out HE.out).mono ?_
      rintro e w1 ⟨N, rfl, -, -, hb⟩
      have HB3 := Lib.hid hb
      clear hb
      go_wp2_with fail
      go_ret2
      unfold RetDec
      rw [HR.out]
      exact ⟨rfl, HB3.out⟩
    · have HP := Lib.hid hp
      rw [hp] at HR
      clear hp
      obtain ⟨ev, hv, hev⟩ := G.out.rng
      have HV := Lib.hid hv
      have HE := Lib.hid hev
      clear hv hev
      go_enter Tryz.func98, Tryz.ntmps98
      go_wp2_with fail
      refine (Tryz.strings_TrimPrefix s ⟨#[45]⟩ _).mono ?_
      rintro e w' ⟨rfl, rfl⟩
      go_wp2_with fail
      refine (Tryz.strconv_ParseInt_10_at64_range s (by omega) HP.out ev _ HV.out HE.out).mono ?_
      rintro e w1 ⟨N, rfl, -, -, hb⟩
      have HB3 := Lib.hid hb
      clear hb
      go_wp2_with fail
      go_ret2
      unfold RetDec
      rw [HR.out]
      exact ⟨rfl, HB3.out⟩

end Go.Proofs.YtkffdamgekoifaaGreatDoor
