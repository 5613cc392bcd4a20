/-
  The reference's l28Equal and l28Reduce.
  The reference's l28Reduce.
  The reference's searches over pairs of states: what they have in common. Plain.
  The reference's CoveringTests.
  The library's slices.IndexFunc and slices.ContainsFunc at a slice of texts, with a function that may lay blocks of its own.
  The library's slices.IndexFunc and slices.ContainsFunc at a slice of numbers, with a function that may lay blocks of its own.
  The library's slices.DeleteFunc at a row of numbers of the call's own, with a function that may lay blocks of its own.
-/
import Derived.Test.YtkbgncenjfebdaaGreatDoorV21
import Derived.Test.YtkbgncenjfebdaaGreatDoorV9
import Derived.Test.YtkbgncenjfebdaaGreatDoorV6
import Derived.Test.YtkbgncenjfebdaaGreatDoorV11
import Derived.Test.YtkbgncenjfebdaaGreatDoorV18
import Derived.Test.YtkbgncenjfebdaaGreatDoorV10
import Derived.Deep.RegionHeld3
import Derived.Deep.AppendLies
import Derived.Test.YtkbgncenjfebdaaGreatDoorProg
import Derived.Test.YtkbgncenjfebdaaGreatDoorV1
import Derived.Test.YtkbgncenjfebdaaGreatDoorV14
import Derived.Test.YtkbgncenjfebdaaGreatDoorV8
namespace Go.Proofs.YtkbgncenjfebdaaGreatDoor
open Go Go.RowKit

theorem info_strR : (Tryz.prog.info? 9).map (fun i => (i.zero, i.size, i.bytes)) = some (some (.string ⟨#[]⟩), 1, 16) := by kernel_rfl
theorem info_strsR : (Tryz.prog.info? 22).map (fun i => (i.zero, i.size, i.bytes)) = some (some (.slice none 0 0), 1, 24) := by kernel_rfl
noncomputable section
open Classical in
/-- One list begins another one. -/
def preB (xs ys : List ByteArray) : Bool := decide (xs <+: ys)
end
open Classical in
theorem preB_iff {xs ys : List ByteArray} : preB xs ys = true ↔ xs <+: ys := by unfold preB; rw [decide_eq_true_eq]

set_option maxRecDepth 100000 in
set_option maxHeartbeats 1000000 in
theorem l28Equal_any (lo lo' : Nat) (va vb : Value) (xs ys : List ByteArray) (w : World) (hva : SliceK 1 encS lo w va xs) (hvb : SliceK 1 encS lo' w vb ys) (_hz : xs.length ≤ 1048576) (_hz2 : ys.length ≤ 1048576) :
  Calls Tryz.prog 112 #[va, vb] w fun e w' => e = .returned (.bool (preB xs ys)) ∧ Below w.heap.size w w' := by
 obtain ⟨a, ca, rfl, hna, hca, ha⟩ := hva
 obtain ⟨b, cb, rfl, hnb, hcb, hb⟩ := hvb
 have HA := Lib.hid ha
 have HB := Lib.hid hb
 obtain ⟨N, hN⟩ : ∃ N, N = xs.length := ⟨_, rfl⟩
 obtain ⟨M, hM⟩ : ∃ M, M = ys.length := ⟨_, rfl⟩
 rw [← hN] at hna ⊢
 rw [← hM] at hnb ⊢
 have HN := Lib.hid hN
 have HM := Lib.hid hM
 clear ha hb hN hM hna hca hnb hcb
 by_cases hl : M < N
 ·have HL : Hid (preB xs ys = false) := by
   unfold Hid
   rw [Bool.eq_false_iff]
   intro h
   have := (preB_iff.1 h).length_le
   have := HN.out
   have := HM.out
   omega
  have hd : decide ((M : Int) < (N : Int)) = true := decide_eq_true (by omega)
  have hd2 : (M : Int) < (N : Int) := by omega
  clear hl
  go_enter Tryz.func112, Tryz.ntmps112
  go_wp2
  go_ret
  exact ⟨by rw [HL.out]; rfl, Below.refl _ _⟩
 ·have HL := Lib.hid hl
  have hd : decide ((M : Int) < (N : Int)) = false := decide_eq_false (by omega)
  have hd2 : ¬ (M : Int) < (N : Int) := by omega
  clear hl
  go_enter Tryz.func112, Tryz.ntmps112
  go_wp2
  go_loopw [5] (fun i wr => ∃ k : Nat, k ≤ N ∧ i = .int .i64 k ∧ Below w.heap.size w wr ∧ ∀ j (h1 : j < xs.length) (h2 : j < ys.length), j < k → xs[j].toList = ys[j].toList) (fun i _ => N - (intOf i).toNat)
  case atStart => exact ⟨0, Nat.zero_le _, rfl, Below.refl _ _, fun _ _ _ h => by omega⟩
  case round =>
   obtain ⟨k, hk, rfl, hbl, hx⟩ := hrel
   have HX := Lib.hid hx
   have HBL := Lib.hid hbl
   clear hx
   by_cases hlt : k < N
   ·have hl1 : k < xs.length := by have := HN.out; omega
    have hl2 : k < ys.length := by have := HM.out; have := HL.out; omega
    have hkM : k < M := by have := HL.out; omega
    obtain ⟨b1, o1, rfl, -, h1, c1⟩ := (HA.out.below hbl).one hl1
    obtain ⟨b2, o2, rfl, -, h2, c2⟩ := (HB.out.below hbl).one hl2
    simp only [encS, List.getElem?_cons_zero] at c1 c2
    obtain ⟨x, hx⟩ : ∃ x, x = xs[k] := ⟨_, rfl⟩
    obtain ⟨y, hy⟩ : ∃ y, y = ys[k] := ⟨_, rfl⟩
    rw [← hx] at c1
    rw [← hy] at c2
    have HXX := Lib.hid hx
    have HYY := Lib.hid hy
    clear hbl hx hy
    cases hxy : (x.toList == y.toList)
    ·have HF : Hid (preB xs ys = false) := by
      unfold Hid
      rw [Bool.eq_false_iff]
      intro h
      rw [HXX.out, HYY.out, pre_get (preB_iff.1 h) hl1 hl2, beq_self_eq_true] at hxy
      cases hxy
     go_wp2
     go_quiet (fail)
     go_wp2
     go_ret
     exact ⟨by rw [HF.out]; rfl, drews HBL.out _⟩
    ·have HF : Hid (xs[k].toList = ys[k].toList) := by
      rw [beq_iff_eq, HXX.out, HYY.out] at hxy
      exact hxy
     go_wp2
     go_quiet (fail)
     go_wp2
     go_roundw
     case rel => exact ⟨k + 1, by omega, by go_num, drews HBL.out _, fun j h1 h2 hj => by
      by_cases e : j = k
      ·subst e; exact HF.out
      ·exact HX.out j h1 h2 (by omega)⟩
     case measure => simp [intOf]; omega
   ·have HF : Hid (preB xs ys = true) := preB_iff.2 (list_pre (by have := HN.out; have := HM.out; have := HL.out; omega) fun j h1 h2 => HX.out j h1 h2 (by have := HN.out; omega))
    clear hbl
    go_wp2
    go_ret
    exact ⟨by rw [HF.out]; rfl, HBL.out⟩

/-- Of the first k lists none contains the i-th one. -/
def KeptTo (ts : List (List ByteArray)) (i k : Nat) : Prop := ∀ (j : Nat) (a b : List ByteArray), j < k → ts[i]? = some a → ts[j]? = some b → a <+: b → ¬ (a.length < b.length ∨ j < i)
theorem keptTo_all {ts : List (List ByteArray)} {i k : Nat} (hk : ts.length ≤ k) : KeptTo ts i k ↔ Kept ts i := by
 constructor
 ·intro h j a b ha hb hp
  exact h j a b (by have := (List.getElem?_eq_some_iff.1 hb).1; omega) ha hb hp
 ·intro h j a b _ ha hb hp
  exact h j a b ha hb hp
theorem keptTo_succ {ts : List (List ByteArray)} {i k : Nat} (hi : i < ts.length) (hk : k < ts.length) : KeptTo ts i (k + 1) ↔ KeptTo ts i k ∧ ¬ (ts[i] <+: ts[k] ∧ (ts[i].length < ts[k].length ∨ k < i)) := by
 constructor
 ·intro h
  exact ⟨fun j a b hj => h j a b (by omega), fun hc => h k _ _ (by omega) (List.getElem?_eq_getElem hi) (List.getElem?_eq_getElem hk) hc.1 hc.2⟩
 ·rintro ⟨h1, h2⟩ j a b hj ha hb hp
  by_cases e : j = k
  ·subst e
   rw [List.getElem?_eq_getElem hi] at ha
   rw [List.getElem?_eq_getElem hk] at hb
   cases ha
   cases hb
   exact fun h => h2 ⟨hp, h⟩
  ·exact h1 j a b (by omega) ha hb hp
theorem keptTo_zero (ts : List (List ByteArray)) (i : Nat) : KeptTo ts i 0 := fun _ _ _ h => absurd h (Nat.not_lt_zero _)

end Go.Proofs.YtkbgncenjfebdaaGreatDoor

namespace Go.Proofs.YtkbgncenjfebdaaGreatDoor
open Go Go.RowKit

set_option maxRecDepth 100000 in
set_option maxHeartbeats 8000000 in
theorem l28Reduce_any (lo : Nat) (v : Value) (ts : List (List ByteArray)) (w : World) (hv : StrssAt lo w v ts) (hz : ts.length ≤ 1000) (hz2 : ∀ x ∈ ts, x ≠ [] ∧ x.length ≤ 1000) :
  Calls Tryz.prog 69 #[v] w fun e w' => ∃ v' vs, e = .returned v' ∧ Below w.heap.size w w' ∧ OwnStrss w.heap.size w' v' vs (redTo ts ts.length) := by
 have HV := Lib.hid hv
 have HZ2 := Lib.hid hz2
 obtain ⟨a, c, rfl⟩ := hv.form
 obtain ⟨N, hN⟩ : ∃ N, N = ts.length := ⟨_, rfl⟩
 rw [← hN] at hz HV ⊢
 have HN := Lib.hid hN
 obtain ⟨i1, hi1, hz10, hz11, hz12⟩ := info_parts info_strR
 obtain ⟨i2, hi2, hz20, hz21, hz22⟩ := info_parts info_strsR
 clear hv hz2 hN
 go_enter Tryz.func69, Tryz.ntmps69
 go_wp2
 go_loopw [3, 4] (fun v3 v4 wr => ∃ (i : Nat) (vs : List Value), i ≤ N ∧ v4 = .int .i64 i ∧ Below w.heap.size w wr ∧ OwnStrss w.heap.size wr v3 vs (redTo ts i)) (fun _ v4 _ => N - (intOf v4).toNat)
 case atStart => exact ⟨0, [], Nat.zero_le _, rfl, (Below.refl _ _).alloc (Nat.le_refl _) _, ⟨World.ownsRow_lit (size := 1) w #[] 0 (Nat.le_refl _) (by simp [maxLen]) rfl, Pile.nil _ _ _⟩⟩
 case round =>
  obtain ⟨i, vs, hi, rfl, hbl, hos⟩ := hrel
  obtain ⟨wC, rfl⟩ : ∃ wC : World, wC = wr := ⟨_, rfl⟩
  have HBL := Lib.hid hbl
  have HOS := Lib.hid hos
  have hsz := hbl.size
  obtain ⟨oa, oc, rfl, -, -⟩ := owns_slice hos.out
  obtain ⟨M, hM⟩ : ∃ M, M = vs.length := ⟨_, rfl⟩
  have hMi : M ≤ i := by rw [hM, hos.len]; exact redTo_len ts i
  rw [← hM] at HOS ⊢
  have HM := Lib.hid hM
  by_cases hlt : i < N
  ·have hlt2 : i < ts.length := by rw [← HN.out]; exact hlt
   have hx := HV.out
   rw [HN.out] at hx
   obtain ⟨b, o, c2, u0, hav, hbw, -, -⟩ := hx.row hlt2
   rw [← HN.out] at hav
   simp only [Value.slice.injEq, true_and] at hav
   obtain ⟨rfl, rfl⟩ := hav
   have HROW : Hid (∀ k (h : k < ts.length), ∃ (ua : Option Addr) (uc : Nat), w.cell? ⟨b, o + k, none⟩ = some (.slice ua ts[k].length uc) ∧ SliceK 1 encS lo w (.slice ua ts[k].length uc) ts[k]) := fun k h => by
    have hx := HV.out
    rw [HN.out] at hx
    obtain ⟨b', o', c', u', hav', -, hc', hs'⟩ := hx.row h
    simp only [Value.slice.injEq, Option.some.injEq, Addr.mk.injEq, and_true, true_and] at hav'
    obtain ⟨⟨rfl, rfl⟩, -⟩ := hav'
    obtain ⟨ua, uc, rfl, -⟩ := id hs'
    exact ⟨ua, uc, hc', hs'⟩
   obtain ⟨ua, uc, hcu, hsu⟩ := HROW.out i hlt2
   have hne := HZ2.out _ (List.getElem_mem hlt2)
   obtain ⟨x, hxx⟩ : ∃ x, x = ts[i] := ⟨_, rfl⟩
   rw [← hxx] at hcu hsu hne
   obtain ⟨XL, hXL⟩ : ∃ XL, XL = x.length := ⟨_, rfl⟩
   rw [← hXL] at hcu hsu hne
   have hXL1 : 0 < XL := by rw [hXL]; exact List.length_pos_iff.2 hne.1
   have hXLm := hne.2
   have HSU := Lib.hid hsu
   have HCU := Lib.hid hcu
   have HX := Lib.hid hxx
   have HXL := Lib.hid hXL
   clear hbl hos hx hcu hsu hne hxx hXL hM
   go_wp2
   go_loopw [5, 6] (fun v5 v6 wr => ∃ (k : Nat) (kp : Bool), v5 = .bool kp ∧ v6 = .int .i64 k ∧ k ≤ N ∧ Below wC.heap.size wC wr ∧ (kp = true ↔ KeptTo ts i k)) (fun _ v6 _ => N - (intOf v6).toNat)
   case atStart => exact ⟨0, true, rfl, rfl, Nat.zero_le _, Below.refl _ _, ⟨fun _ => keptTo_zero ts i, fun _ => rfl⟩⟩
   case round =>
    obtain ⟨k, kp, rfl, rfl, hk, hb2, hkp⟩ := hrel
    obtain ⟨wD, rfl⟩ : ∃ wD : World, wD = wr := ⟨_, rfl⟩
    have HB2 := Lib.hid hb2
    have HKP := Lib.hid hkp
    have hwD := HBL.out.trans (hb2.mono hsz)
    have HWD := Lib.hid hwD
    have hs2 := hb2.size
    have hsD := hwD.size
    by_cases hkN : k < N
    ·have hk2 : k < ts.length := by rw [← HN.out]; exact hkN
     obtain ⟨ya, yc, hcy, hsy⟩ := HROW.out k hk2
     have hne := HZ2.out _ (List.getElem_mem hk2)
     have HSUC := Lib.hid (keptTo_succ hlt2 hk2)
     obtain ⟨y, hyy⟩ : ∃ y, y = ts[k] := ⟨_, rfl⟩
     rw [← hyy] at hcy hsy hne HSUC
     rw [← HX.out] at HSUC
     obtain ⟨YL, hYL⟩ : ∃ YL, YL = y.length := ⟨_, rfl⟩
     have HSUC2 : Hid (KeptTo ts i (k + 1) ↔ KeptTo ts i k ∧ ¬ (preB x y = true ∧ (XL < YL ∨ k < i))) := by
      unfold Hid
      rw [HXL.out, hYL, preB_iff]
      exact HSUC.out
     rw [← hYL] at hcy hsy hne
     have hYLm := hne.2
     have lu := later_cell (show b < wD.heap.size by omega) (keeps hwD hbw HCU.out)
     have ly := later_cell (show b < wD.heap.size by omega) (keeps hwD hbw hcy)
     have HEQ : Hid (∀ g : Later wD, Calls Tryz.prog 112 #[.slice ua XL uc, .slice ya YL yc] g.w fun e w' => e = .returned (.bool (preB x y)) ∧ Below g.w.heap.size g.w w') := fun g =>
      l28Equal_any lo lo _ _ x y g.w ((HSU.out.below hwD).below g.h) ((hsy.below hwD).below g.h) (by rw [← HXL.out]; omega) (by rw [← hYL]; omega)
     obtain ⟨pb, hpb⟩ : ∃ pb, pb = preB x y := ⟨_, rfl⟩
     rw [← hpb] at HEQ HSUC2
     clear hb2 hkp hwD hcy hsy hne HSUC hyy hYL hpb
     cases pb
     ·have HK : Hid (kp = true ↔ KeptTo ts i (k + 1)) := by
       unfold Hid
       rw [HSUC2.out, HKP.out]
       exact ⟨fun h => ⟨h, fun h2 => by cases h2.1⟩, fun h => h.1⟩
      go_wp2
      refine wp_region_later (by kernel_rfl) (by kernel_rfl) ?_
      repeat (go_big_quiet_step ((go_at_call 112; exact later_call (HEQ.out _))))
      refine wpQuiet_nil ?_
      intro _ hw9
      obtain ⟨nl, hw8⟩ := hw9
      subst hw8
      have HBN := Lib.hid (HB2.out.trans (nl.h.mono hs2))
      clear lu ly
      go_wp2
      go_roundw
      case rel => exact ⟨k + 1, kp, rfl, by go_num, by omega, HBN.out, HK.out⟩
      case measure => simp [intOf]; omega
     ·by_cases h1 : XL < YL
      ·have HK : Hid ((false = true) ↔ KeptTo ts i (k + 1)) := by
        unfold Hid
        rw [HSUC2.out]
        exact ⟨(fun h => by cases h), fun h => absurd ⟨rfl, .inl h1⟩ h.2⟩
       have hd1 : decide ((XL : Int) < (YL : Int)) = true := decide_eq_true (by omega)
       have hd2 : (XL : Int) < (YL : Int) := by omega
       go_wp2
       refine wp_region_later (by kernel_rfl) (by kernel_rfl) ?_
       repeat (go_big_quiet_step ((go_at_call 112; exact later_call (HEQ.out _))))
       refine wpQuiet_nil ?_
       intro _ hw9
       obtain ⟨nl, hw8⟩ := hw9
       subst hw8
       have HBN := Lib.hid (HB2.out.trans (nl.h.mono hs2))
       clear lu ly
       go_wp2
       go_roundw
       case rel => exact ⟨k + 1, false, rfl, by go_num, by omega, HBN.out, HK.out⟩
       case measure => simp [intOf]; omega
      ·have hd1 : decide ((XL : Int) < (YL : Int)) = false := decide_eq_false (by omega)
       have hd2 : ¬ (XL : Int) < (YL : Int) := by omega
       by_cases h2 : k < i
       ·have HK : Hid ((false = true) ↔ KeptTo ts i (k + 1)) := by
         unfold Hid
         rw [HSUC2.out]
         exact ⟨(fun h => by cases h), fun h => absurd ⟨rfl, .inr h2⟩ h.2⟩
        have hd3 : decide ((k : Int) < (i : Int)) = true := decide_eq_true (by omega)
        have hd4 : (k : Int) < (i : Int) := by omega
        go_wp2
        refine wp_region_later (by kernel_rfl) (by kernel_rfl) ?_
        repeat (go_big_quiet_step ((go_at_call 112; exact later_call (HEQ.out _))))
        refine wpQuiet_nil ?_
        intro _ hw9
        obtain ⟨nl, hw8⟩ := hw9
        subst hw8
        have HBN := Lib.hid (HB2.out.trans (nl.h.mono hs2))
        clear lu ly
        go_wp2
        go_roundw
        case rel => exact ⟨k + 1, false, rfl, by go_num, by omega, HBN.out, HK.out⟩
        case measure => simp [intOf]; omega
       ·have HK : Hid (kp = true ↔ KeptTo ts i (k + 1)) := by
         unfold Hid
         rw [HSUC2.out, HKP.out]
         exact ⟨fun h => ⟨h, fun hc => hc.2.elim h1 h2⟩, fun h => h.1⟩
        have hd3 : decide ((k : Int) < (i : Int)) = false := decide_eq_false (by omega)
        have hd4 : ¬ (k : Int) < (i : Int) := by omega
        go_wp2
        refine wp_region_later (by kernel_rfl) (by kernel_rfl) ?_
        repeat (go_big_quiet_step ((go_at_call 112; exact later_call (HEQ.out _))))
        refine wpQuiet_nil ?_
        intro _ hw9
        obtain ⟨nl, hw8⟩ := hw9
        subst hw8
        have HBN := Lib.hid (HB2.out.trans (nl.h.mono hs2))
        clear lu ly
        go_wp2
        go_roundw
        case rel => exact ⟨k + 1, kp, rfl, by go_num, by omega, HBN.out, HK.out⟩
        case measure => simp [intOf]; omega
    ·have HKE : Hid (kp = true ↔ Kept ts i) := by unfold Hid; rw [HKP.out, keptTo_all (by have := HN.out; omega)]
     have HOSD := Lib.hid (HOS.out.below hb2)
     have cu := keeps (hwD.alloc hsD (.cells #[] 9)) hbw HCU.out
     have hSR : SrcS (wD.alloc (.cells #[] 9)) (.slice ua XL uc) x := by
      obtain ⟨a9, c9, e9, h1, h2, h3⟩ := (HSU.out.below hwD).below ((Below.refl wD.heap.size wD).alloc (Nat.le_refl _) (.cells #[] 9))
      simp only [Value.slice.injEq] at e9
      obtain ⟨rfl, -, rfl⟩ := e9
      rcases h3 with h3 | ⟨b9, o9, rfl, -, h4, h5⟩
      ·have := HXL.out; omega
      ·exact .inr ⟨b9, o9, uc, by rw [HXL.out], h4, fun j hj => by have := h5 j hj 0 (by omega); simpa [encS] using this⟩
     have HSR := Lib.hid hSR
     have HE0 : Hid ((wD.alloc (.cells #[] 9)).ownsRow wD.heap.size 9 1 (.slice (some ⟨wD.heap.size, 0, none⟩) 0 0) 0 []) := World.ownsRow_lit (base := wD.heap.size) (e := 9) (size := 1) wD #[] 0 (Nat.le_refl _) (by decide) rfl
     clear hb2 hkp hwD hSR
     cases kp
     ·have HK : Hid (redTo ts (i + 1) = redTo ts i) := redTo_no fun h => by have := HKE.out.2 h; cases this
      go_wp2
      go_roundw
      case rel => exact ⟨i + 1, vs, by omega, by go_num, HWD.out, by rw [HK.out]; exact HOSD.out⟩
      case measure => simp [intOf]; omega
     ·have HK : Hid (redTo ts (i + 1) = redTo ts i ++ [x]) := by
       unfold Hid
       rw [redTo_yes hlt2 (HKE.out.1 rfl), HX.out]
      go_wp2_with (at_builtin; refine append_src rfl _ _ 22 rfl wD.heap.size 9 i1 (.string ⟨#[]⟩) 16 Tryz.underlying22 hi1 hz10 hz11 hz12 rfl _ 0 _ rfl HE0.out x HSR.out ?c3 ?c4 ?c5 ?_)
      case c3 => have := HXL.out; simp [maxLen]; omega
      case c4 => have := HXL.out; omega
      try (case c5 => simp)
      intro v1 wM ho1 hg1
      have hbM : Below wD.heap.size wD wM := ((Below.refl _ _).alloc (Nat.le_refl _) _).grown hg1 (by simp) (fun b e => by cases e; exact Nat.le_refl _)
      have HbM := Lib.hid hbM
      obtain ⟨va1, vc1, rfl, -, -⟩ := owns_slice ho1
      have HO1 : Hid (wM.ownsRow wD.heap.size 9 1 (.slice va1 XL vc1) XL (x.map .string)) := by
       unfold Hid
       rw [HXL.out]
       simpa using ho1
      have hsM := hbM.size
      have HRN : Hid (wM.ownsRow w.heap.size 22 1 (.slice oa M oc) M vs) := by
       have h := owns_below HOSD.out.out hbM
       rw [← HM.out] at h
       exact h
      rw [← HXL.out]
      clear ho1 hg1 hbM
      go_wp2_with (at_builtin; refine wpList_append_own _ rfl _ _ 42 rfl w.heap.size 22 i2 (.slice none 0 0) 1 24 Tryz.underlying42 hi2 hz20 hz21 hz22 rfl (by decide) _ M _ rfl (HRN.out.alloc _) ⟨wM.heap.size, 0, none⟩ 1 1 [.slice va1 XL vc1] rfl rfl ?f1 ?f2 ?f3 ?f4 ?f5 ?_)
      case f1 => exact World.news_of_block (cs := #[.slice va1 XL vc1]) (t := 22) (fr := (0, 0)) (heap_alloc_new _ _)
      case f2 => intro u hu; simp at hu; subst hu; rfl
      case f3 => first | omega | (simp [maxLen]; omega)
      case f4 => omega
      case f5 => first | omega | (simp; omega)
      intro v3 wO ho3 hg3 _
      have HbA : Hid (Below wD.heap.size wD (wM.alloc (.cells #[.slice va1 XL vc1] 22))) := HbM.out.alloc hsM _
      have HBO : Hid (Below w.heap.size w wO) := (HWD.out.trans (HbA.out.mono hsD)).grown hg3 (by have := HbA.out.size; omega) (fun b e => (HRN.out.lt b e).1)
      have HPU : Hid (OwnStrss w.heap.size wO v3 (vs ++ [.slice va1 XL vc1]) (redTo ts i ++ [x])) := by
       refine OwnStrss.push (GE := wD.heap.size) HOSD.out (Nat.le_refl _) hsD HbA.out ?_ hg3 (by rw [← HM.out]; exact ho3)
       rw [← HXL.out]
       exact HO1.out.alloc _
      clear ho3 hg3
      go_wp2
      go_roundw
      case rel => exact ⟨i + 1, _, by omega, by go_num, HBO.out, by rw [HK.out]; exact HPU.out⟩
      case measure => simp [intOf]; omega
  ·have hiN : i = N := by omega
   have HOF : Hid (OwnStrss w.heap.size wC (.slice oa M oc) vs (redTo ts N)) := by unfold Hid; rw [← hiN]; exact HOS.out
   clear hbl hos hM
   go_wp2
   go_ret
   exact ⟨_, vs, rfl, HBL.out, HOF.out⟩

end Go.Proofs.YtkbgncenjfebdaaGreatDoor

namespace Go.Proofs.YtkbgncenjfebdaaGreatDoor
open Go Go.RowKit

theorem own_some {w : World} {base e size n : Nat} {v : Value} {xs : List Value} (h : w.ownsRow base e size v n xs) (hn : 0 < n) : ∃ g c, v = .slice (some ⟨g, 0, none⟩) n c ∧ base ≤ g ∧ g < w.heap.size := by
 rcases h.2 with ⟨h1, h0⟩ | ⟨g, cap, cur, h1, h2, hg, -⟩
 ·omega
 ·exact ⟨g, cap, h1, h2, (Array.getElem?_eq_some_iff.1 hg).1⟩
end Go.Proofs.YtkbgncenjfebdaaGreatDoor

namespace Go.Proofs.YtkbgncenjfebdaaGreatDoor
open Go Go.RowKit

theorem cov_labs {t : Lts} {st : DNet} {e : Edge} {lb : Nat} (h : (lb : Int) = e.lab) (hl : lb < t.labels.length) : labAt (dSys t st) e = t.labels[lb] := by
 unfold labAt
 show t.labels.getD e.lab.toNat _ = _
 rw [List.getD_eq_getElem?_getD, show e.lab.toNat = lb from by omega, List.getElem?_eq_getElem hl]
 rfl

set_option maxRecDepth 100000 in
set_option maxHeartbeats 8000000 in
theorem specCoveringTests_any (lo : Nat) (t : Lts) (lv ev v : Value) (ins : List ByteArray) (w : World) (hsh : Short t.labels) (hl : SliceK 1 encS lo w lv t.labels) (he : SliceK 3 encE lo w ev t.edges) (hi : SliceK 1 encS lo w v ins) :
  Calls Tryz.prog 31 #[.agg #[.int .i64 t.states, .int .i64 t.initial, lv, ev], v] w (RetCv t ins w) := by
 obtain ⟨tb, htb⟩ : ∃ tb, tb = w.heap.size := ⟨_, rfl⟩
 obtain ⟨wA, hwA⟩ : ∃ wA, wA = w.alloc (.cells #[.int .i64 t.states, .int .i64 t.initial, lv, ev] 30) := ⟨_, rfl⟩
 have hbA : Below w.heap.size w wA := by rw [hwA]; exact (Below.refl _ _).alloc (Nat.le_refl _) _
 have hT : Blk wA tb [.int .i64 t.states, .int .i64 t.initial, lv, ev] 30 := by rw [hwA, htb]; exact Blk.new w _ _
 have hP : LtsPtr lo wA tb t := ⟨_, _, hT.lt, hT.cell 0 rfl, hT.cell 1 rfl, hT.cell 2 rfl, hT.cell 3 rfl, hl.below hbA, he.below hbA⟩
 have HVI := l28Is_any tb lo t v ins wA hsh hP (hi.below hbA)
 have HSH := Lib.hid hsh
 have HP := Lib.hid hP
 have HII := Lib.hid (hi.below hbA)
 have HBA := Lib.hid hbA
 have HWA := Lib.hid hwA
 have HTB := Lib.hid htb
 have hsW : w.heap.size ≤ wA.heap.size := hbA.size
 obtain ⟨i1, hi1, hz10, hz11, hz12⟩ := info_parts info_strR
 obtain ⟨i2, hi2, hz20, hz21, hz22⟩ := info_parts info_strsR
 clear hsh hl he hi hwA hbA hT htb hP
 by_cases hif : IfOk t ins
 ·have HIF := Lib.hid hif
  have HVA := Lib.hid (Decides.yes HVI hif)
  clear hif HVI
  go_enter Tryz.func31, Tryz.ntmps31
  go_wp2_with fail
  rw [← HWA.out, ← HTB.out]
  refine Calls.mono HVA.out ?_
  rintro e w1 ⟨rfl, hb1⟩
  have HB1 := Lib.hid hb1
  have HAU := Lib.hid (l28Auto_any tb lo t v ins w1 HIF.out HSH.out (HP.out.below hb1) (HII.out.below hb1))
  clear hb1 HVA
  go_wp2_with fail
  refine Calls.mono HAU.out ?_
  rintro e w2 ⟨hb2, ⟨hno, rfl⟩ | ⟨hv, st, lvS, vr, evS, hok, rfl, hmem, hol⟩⟩
  ·have HNO := Lib.hid hno
   have HB4 := Lib.hid (HB1.out.trans ((hb2.trans (((Below.refl w2.heap.size w2).alloc (Nat.le_refl _) (.cells #[.int .i64 0, .int .i64 0, .slice none 0 0, .slice none 0 0] 30)).mono hb2.size)).mono HB1.out.size))
   clear hno hb2 HAU
   go_wp2
   go_ret2
   exact cv_none (HBA.out.trans (HB4.out.mono hsW)) (.inr (.inl ⟨HIF.out, HNO.out, rfl, rfl⟩))
  ·obtain ⟨la, lc, rfl, -, -⟩ := owns_slice hol
   obtain ⟨ea, ec, rfl, -, -⟩ := owns_slice hmem.2
   obtain ⟨-, hme⟩ := hmem
   obtain ⟨R, hRR⟩ : ∃ R, R = st.rows.length := ⟨_, rfl⟩
   obtain ⟨LN, hLN⟩ : ∃ LN, LN = (susT t ins).labels.length := ⟨_, rfl⟩
   obtain ⟨EN, hEN⟩ : ∃ EN, EN = st.edges.length := ⟨_, rfl⟩
   have hlp := hv.labels.pos
   have hEN300 : EN ≤ 300 := by rw [hEN]; exact hok.2.2
   rw [← hLN] at hol hlp
   rw [← hEN] at hme
   rw [← hRR, ← hLN, ← hEN]
   obtain ⟨bl, cl', hbl', hblB, hblw⟩ := own_some hol hlp
   simp only [Value.slice.injEq, true_and] at hbl'
   obtain ⟨rfl, rfl⟩ := hbl'
   obtain ⟨W3, hW3⟩ : ∃ W3, W3 = w2.alloc (.cells #[.int .i64 R, .int .i64 0, .slice (some ⟨bl, 0, none⟩) LN lc, .slice ea EN ec] 30) := ⟨_, rfl⟩
   obtain ⟨p3, hp3⟩ : ∃ p3, p3 = w2.heap.size := ⟨_, rfl⟩
   have hb4 : Below w2.heap.size w2 W3 := by rw [hW3]; exact (Below.refl _ _).alloc (Nat.le_refl _) _
   have hX : Blk W3 p3 [.int .i64 R, .int .i64 0, .slice (some ⟨bl, 0, none⟩) LN lc, .slice ea EN ec] 30 := by rw [hW3, hp3]; exact Blk.new _ _ _
   have hol3 := owns_below hol hb4
   have hek : SliceK 3 encE w1.heap.size W3 (.slice ea EN ec) st.edges := by rw [hEN]; exact SliceK.of_owns (enc := encE) (e := 93) encE_len rfl (by rw [← hEN]; exact owns_below hme hb4)
   have hLP : LtsPtr w1.heap.size W3 p3 (dSys (susT t ins) st) := ⟨.slice (some ⟨bl, 0, none⟩) LN lc, .slice ea EN ec, hX.lt, by rw [hX.cell 0 rfl, hRR]; rfl, hX.cell 1 rfl, hX.cell 2 rfl, hX.cell 3 rfl,
    (SliceK.of_owns (enc := encS) (e := 9) encS_len hLN (by rw [flat_encS]; exact hol3)), hek⟩
   have HWY := Lib.hid (l18Ways_any p3 _ (susT t ins) st W3 hv hok hLP)
   have HV := Lib.hid hv
   have HOK := Lib.hid hok
   have HG := Lib.hid (dok_good hv hok)
   have HB4 := Lib.hid (HB1.out.trans ((hb2.trans (hb4.mono hb2.size)).mono HB1.out.size))
   have HX := Lib.hid hX
   have HOL := Lib.hid hol3
   have HEK := Lib.hid hek
   have HRR := Lib.hid hRR
   have HLN := Lib.hid hLN
   have HEN := Lib.hid hEN
   have HW3 := Lib.hid hW3
   have HP3 := Lib.hid hp3
   have hblw3 : bl < W3.heap.size := Nat.lt_of_lt_of_le hblw hb4.size
   clear hv hok hb2 hb4 hme hol hRR hLN hEN hX hol3 hek hLP hW3 hp3 hblB hblw HAU
   go_wp2_with fail
   rw [← HW3.out]
   try rw [← HP3.out]
   refine Calls.mono HWY.out ?_
   rintro e w4 ⟨v4, vs4, N, rfl, hb5, hwa, how⟩
   have HB5 := Lib.hid hb5
   have HWA2 := Lib.hid hwa
   have HOW := Lib.hid how
   obtain ⟨wa, wc, rfl, -, -⟩ := owns_slice how.out
   obtain ⟨K, hK⟩ : ∃ K, K = vs4.length := ⟨_, rfl⟩
   have hKR : K = R := by rw [hK, how.len, List.length_map, hwa.1, HRR.out]
   rw [← hK] at HOW ⊢
   have HK := Lib.hid hK
   have HKR := Lib.hid hKR
   clear hKR
   obtain ⟨W5, hW5⟩ : ∃ W5, W5 = w4.alloc (.cells #[] 22) := ⟨_, rfl⟩
   obtain ⟨B, hB⟩ : ∃ B, B = w4.heap.size := ⟨_, rfl⟩
   have hb45 : Below w4.heap.size w4 W5 := by rw [hW5]; exact (Below.refl _ _).alloc (Nat.le_refl _) _
   have HOT : Hid (OwnStrss B W5 (.slice (some ⟨B, 0, none⟩) 0 0) [] []) := by
    unfold Hid; rw [hW5, hB]
    exact ⟨World.ownsRow_lit (size := 1) w4 #[] 0 (Nat.le_refl _) (by simp [maxLen]) rfl, Pile.nil _ _ _⟩
   have hb35 : Below W3.heap.size W3 W5 := hb5.trans (hb45.mono hb5.size)
   have HB35 := Lib.hid hb35
   have hs5 : W5.heap.size = B + 1 := by rw [hW5, hB]; simp
   have hB3 : W3.heap.size ≤ B := by rw [hB]; exact hb5.size
   have hB5 : B ≤ W5.heap.size := by omega
   have HB45 : Hid (Below B w4 W5) := by unfold Hid; rw [hB]; exact hb45
   have HW5 := Lib.hid hW5
   have HBB := Lib.hid hB
   clear hb5 hwa how hK hW5 hB hb45 hb35 HWY
   go_wp2
   rw [← HW5.out]
   try rw [← HBB.out]
   go_loopw [10, 11] (fun v10 v11 wr => ∃ (i : Nat) (vs : List Value) (ts : List (List ByteArray)), i ≤ EN ∧ v11 = .int .i64 i ∧ CovL (susT t ins) st i ts ∧ Below B W5 wr ∧ OwnStrss B wr v10 vs ts) (fun _ v11 _ => EN - (intOf v11).toNat)
   case atStart => exact ⟨0, [], [], Nat.zero_le _, rfl, CovL.zero _ _, (Below.refl _ _).mono hB5, HOT.out⟩
   case round =>
    obtain ⟨i, vs, ts, hi, rfl, hcv, hbl, hot⟩ := hrel
    obtain ⟨wC, rfl⟩ : ∃ wC : World, wC = wr := ⟨_, rfl⟩
    have HCV := Lib.hid hcv
    have HBL := Lib.hid hbl
    have HOT2 := Lib.hid hot
    have hszC : B ≤ wC.heap.size := Nat.le_trans hB5 hbl.size
    obtain ⟨oa, oc, rfl, -, -⟩ := owns_slice hot.out
    obtain ⟨M, hM⟩ : ∃ M, M = vs.length := ⟨_, rfl⟩
    have hMi : M = i := by rw [hM, hot.len, hcv.1]
    rw [← hM] at HOT2 ⊢
    have HM := Lib.hid hM
    have hM300 : M ≤ 300 := by omega
    clear hMi
    have hb3C : Below W3.heap.size W3 wC := HB35.out.trans (hbl.mono hB3)
    have x3 := (HX.out.below hb3C).cell 3 rfl
    by_cases hlt : i < EN
    ·have hlt2 : i < st.edges.length := by rw [← HEN.out]; exact hlt
     have hge := HG.out.edges _ (List.getElem_mem hlt2)
     have x2 := (HX.out.below hb3C).cell 2 rfl
     have hpl := (HX.out.below hb3C).lt
     obtain ⟨a9, c9, e9, -, -, hrow⟩ := HEK.out
     simp only [Value.slice.injEq] at e9
     obtain ⟨rfl, -, rfl⟩ := e9
     obtain ⟨be, oe, rfl, -, hbe3, e1, e2, -⟩ := hrow.edge hlt2
     have hbe : be < wC.heap.size := Nat.lt_of_lt_of_le hbe3 hb3C.size
     have hpl3 := HX.out.lt
     obtain ⟨x, hx⟩ : ∃ x, x = st.edges[i] := ⟨_, rfl⟩
     rw [← hx] at hge e1 e2
     obtain ⟨⟨hs0, hs1⟩, ⟨hl0, hl1⟩, -⟩ := hge
     obtain ⟨s, hs⟩ : ∃ s : Nat, (s : Int) = x.src := ⟨x.src.toNat, by omega⟩
     obtain ⟨lb, hlb⟩ : ∃ lb : Nat, (lb : Int) = x.lab := ⟨x.lab.toNat, by omega⟩
     have hsR : s < K := by rw [HKR.out, HRR.out]; omega
     have hlbL : lb < LN := by rw [HLN.out]; omega
     have hlb2 : lb < (susT t ins).labels.length := by rw [← HLN.out]; exact hlbL
     rw [← hs] at e1
     rw [← hlb] at e2
     replace e1 := keeps hb3C hbe3 e1
     replace e2 := keeps hb3C hbe3 e2
     obtain ⟨l, hl⟩ : ∃ l, l = (susT t ins).labels[lb] := ⟨_, rfl⟩
     have HLB : Hid (labAt (dSys (susT t ins) st) x = l) := by unfold Hid; rw [cov_labs hlb hlb2, hl]
     have hlc := (owns_below HOL.out hb3C).cellAt lb (by omega)
     rw [List.getElem?_map, List.getElem?_eq_getElem hlb2, Option.map_some, ← hl] at hlc
     -- the way to the edge's state
     have hNs : s < N.length := by rw [HWA2.out.1]; omega
     obtain ⟨u, hu⟩ : ∃ u, N[s]? = some u := ⟨_, List.getElem?_eq_getElem hNs⟩
     have hgu := (List.getElem?_eq_some_iff.1 hu).2
     obtain ⟨r, hr⟩ : ∃ r, r = txtsOf (susT t ins).labels u := ⟨_, rfl⟩
     have HWT : Hid (WayTo (susT t ins) st x.src r) := by
      refine ⟨u, ?_, hr⟩
      rw [← hs]
      exact HWA2.out.least (G := fun z => z = (s : Int)) hu rfl fun k hk e => by omega
     have hrl : r.length ≤ 40 := by rw [hr]; exact HWA2.out.few HOK.out.2 hu
     have HRL40 := Lib.hid hrl
     have hb4C : Below w4.heap.size w4 wC := by have h := HB45.out.trans hbl; rw [HBB.out] at h; exact h
     have how := HOW.out.below hb4C
     have hsv : s < vs4.length := by rw [← HK.out]; exact hsR
     have hrw := how.rowAt s hsv (by rw [List.length_map]; exact hNs)
     have hcw := how.out
     rw [← HK.out] at hcw
     obtain ⟨wb, wc', hw', -, hwbw⟩ := own_some hcw (by omega)
     simp only [Value.slice.injEq, true_and] at hw'
     obtain ⟨rfl, rfl⟩ := hw'
     have hcw2 := hcw.cellAt s (by omega)
     rw [List.getElem?_eq_getElem hsv] at hcw2
     simp only [List.getElem_map] at hrw
     rw [hgu, ← hr] at hrw
     obtain ⟨rv, hrv⟩ : ∃ rv, rv = vs4[s] := ⟨_, rfl⟩
     rw [← hrv] at hrw hcw2
     obtain ⟨ra, rc, rfl, -, -⟩ := owns_slice hrw
     have hcw3 : wC.cell? ⟨wb, s, none⟩ = some (.slice ra r.length rc) := hcw2
     obtain ⟨RL, hRL⟩ : ∃ RL, RL = r.length := ⟨_, rfl⟩
     have HRLH := Lib.hid hRL
     have hA : Below wC.heap.size wC (wC.alloc (.cells #[] 9)) := (Below.refl _ _).alloc (Nat.le_refl _) _
     have HSR : Hid (SrcS (wC.alloc (.cells #[] 9)) (.slice ra RL rc) r) := by
      unfold Hid
      rw [hRL]
      exact SrcS.of_own (e := 9) (owns_below hrw hA)
     have HE0 : Hid ((wC.alloc (.cells #[] 9)).ownsRow wC.heap.size 9 1 (.slice (some ⟨wC.heap.size, 0, none⟩) 0 0) 0 []) := World.ownsRow_lit (base := wC.heap.size) (e := 9) (size := 1) wC #[] 0 (Nat.le_refl _) (by decide) rfl
     rw [← hRL] at hcw3
     have y3 := keeps hA hpl x3
     have y1 := keeps hA hbe e1
     have yw := keeps hA hwbw hcw3
     have X2 := Lib.hid x2
     have X3 := Lib.hid x3
     have E2 := Lib.hid e2
     have LC := Lib.hid hlc
     have HXX := Lib.hid hx
     have hblC : bl < wC.heap.size := Nat.lt_of_lt_of_le hblw3 hb3C.size
     clear hcv hbl hot hM hb3C hrow hx hs hlb hl hlc hu hgu hr hrl hb4C how hrw hcw hcw2 hcw3 hrv hRL hA x2 e1 e2
     go_wp2_with (at_builtin; refine append_src rfl _ _ 22 rfl wC.heap.size 9 i1 (.string ⟨#[]⟩) 16 Tryz.underlying22 hi1 hz10 hz11 hz12 rfl _ 0 _ rfl HE0.out r HSR.out ?c3 ?c4 ?c5 ?_)
     case c3 => have := HRL40.out; simp [maxLen]; omega
     case c4 => have := HRL40.out; omega
     try (case c5 => simp)
     intro v1 wM ho1 hg1
     have hbM : Below wC.heap.size wC wM := ((Below.refl _ _).alloc (Nat.le_refl _) _).grown hg1 (by simp) (fun b e => by cases e; exact Nat.le_refl _)
     have HbM := Lib.hid hbM
     obtain ⟨va1, vc1, rfl, -, -⟩ := owns_slice ho1
     have HO1 : Hid (wM.ownsRow wC.heap.size 9 1 (.slice va1 RL vc1) RL (r.map .string)) := by
      unfold Hid
      rw [HRLH.out]
      simpa using ho1
     have hsM := hbM.size
     rw [← HRLH.out]
     have hRL40 : RL ≤ 40 := by have := HRL40.out; have := HRLH.out; omega
     clear ho1 hg1 hbM y3 y1 yw x3
     have HD : Hid (Below B wC wM.drew) := HbM.out.drew.mono hszC
     have hsD : B ≤ wM.drew.heap.size := by have := hsM; simp; omega
     have HOD : Hid (wM.drew.ownsRow wC.heap.size 9 1 (.slice va1 RL vc1) RL (r.map .string)) := owns_below HO1.out ((Below.refl _ _).drew)
     have HSW : Hid (∀ w', Below B wC w' → w'.cell? ⟨p3, 2, none⟩ = some (.slice (some ⟨bl, 0, none⟩) LN lc) ∧ w'.cell? ⟨p3, 3, none⟩ = some (.slice (some ⟨be, oe, none⟩) EN ec) ∧ w'.cell? ⟨be, oe + i * 3 + 1, none⟩ = some (.int .i64 lb) ∧ w'.cell? ⟨bl, lb, none⟩ = some (.string l)) := fun w' hb =>
      ⟨(hb.cell (p := ⟨p3, 2, none⟩) (by show p3 < B; omega)).trans X2.out, (hb.cell (p := ⟨p3, 3, none⟩) (by show p3 < B; omega)).trans X3.out, (hb.cell (p := ⟨be, oe + i * 3 + 1, none⟩) (by show be < B; omega)).trans E2.out, (hb.cell (p := ⟨bl, lb, none⟩) (by show bl < B; omega)).trans LC.out⟩
     have HSC : Hid (wC.heap.size ≤ wM.drew.heap.size) := by unfold Hid; simp; exact hsM
     go_wp2
     go_region_held3 (fun w' => w'.cell? ⟨p3, 2, none⟩ = some (.slice (some ⟨bl, 0, none⟩) LN lc) ∧ w'.cell? ⟨p3, 3, none⟩ = some (.slice (some ⟨be, oe, none⟩) EN ec) ∧ w'.cell? ⟨be, oe + i * 3 + 1, none⟩ = some (.int .i64 lb) ∧ w'.cell? ⟨bl, lb, none⟩ = some (.string l))
      (first
       | exact HSW.out _ HD.out
       | exact HSW.out _ (HD.out.alloc hsD _)
       | exact HSW.out _ hq5
       | exact HSW.out _ (hq5.alloc hs5 _)
       | exact HSW.out _ hq6
       | go_keep)
      (first
       | (refine step_append_lies _ (by rfl) _ _ 22 (by rfl) wC.heap.size 9 i1 _ 1 16 Tryz.underlying22 hi1 hz10 hz11 hz12 rfl (by omega) (.slice va1 RL vc1) RL (r.map .string) (by rfl) (HOD.out.alloc _) ⟨wM.drew.heap.size, 0, none⟩ 1 1 [.string l] (by rfl) (by rfl) (World.news_of_block (cs := #[.string l]) (t := 9) (fr := (0, 0)) (heap_alloc_new _ _)) (by simp [Value.oneCell']) (by omega) (by simp [maxLen]; omega) (by omega) (by have := HSC.out; simp at this ⊢; omega) (wM.heap.size + 1) (by simp) ?_; intro gg1 cap1 w5 hown5 hgrow5 hat5 hlt5; have hq5 : Below B wC w5 := ((HD.out.alloc hsD _).grown hgrow5 (by have := HSC.out; simp at this ⊢; omega) (fun b e => Nat.le_trans hszC (HOD.out.lt b e).1)); have hqw : Below wC.heap.size wC w5 := ((HbM.out.drew.alloc HSC.out _).grown hgrow5 (by have := HSC.out; simp at this ⊢; omega) (fun b e => (HOD.out.lt b e).1)); have hs5 : B ≤ w5.heap.size := Nat.le_trans hszC hqw.size; have HO5 := Lib.hid hown5; have HQW := Lib.hid hqw)
       | (refine step_append_lies _ (by rfl) _ _ 42 (by rfl) B 22 i2 _ 1 24 Tryz.underlying42 hi2 hz20 hz21 hz22 rfl (by omega) (.slice oa M oc) M vs (by rfl) (by have h := (HOT2.out.below (HQW.out.alloc HQW.out.size (.cells #[.slice (some ⟨gg1, 0, none⟩) (RL + 1) cap1] 22))).out; rw [← HM.out] at h; exact h) ⟨w5.heap.size, 0, none⟩ 1 1 [.slice (some ⟨gg1, 0, none⟩) (RL + 1) cap1] (by rfl) (by rfl) (World.news_of_block (cs := #[.slice (some ⟨gg1, 0, none⟩) (RL + 1) cap1]) (t := 22) (fr := (0, 0)) (heap_alloc_new _ _)) (by simp [Value.oneCell']) (by omega) (by simp [maxLen]; omega) (by omega) (by simp; omega) (w5.heap.size + 1) (by simp) ?_; intro gg2 cap2 w6 hown6 hgrow6 hat6 hlt6; have hbA : Below wC.heap.size wC (w5.alloc (.cells #[.slice (some ⟨gg1, 0, none⟩) (RL + 1) cap1] 22)) := HQW.out.alloc HQW.out.size _; have hRNA : World.ownsRow _ B 22 1 (.slice oa M oc) M vs := (by have h := (HOT2.out.below hbA).out; rw [← HM.out] at h; exact h); have hq6 : Below B wC w6 := (hbA.mono hszC).grown hgrow6 (Nat.le_trans hszC hbA.size) (fun b e => (hRNA.lt b e).1))
       | fail)
     all_goals (
      have HBO : Hid (Below B W5 w6) := HBL.out.trans hq6
      have HPU : Hid (OwnStrss B w6 (.slice (some ⟨gg2, 0, none⟩) (M + 1) cap2) (vs ++ [.slice (some ⟨gg1, 0, none⟩) (RL + 1) cap1]) (ts ++ [r ++ [l]])) := by
       refine OwnStrss.push (GE := wC.heap.size) HOT2.out (Nat.le_refl _) hszC hbA ?_ hgrow6 (by rw [← HM.out]; exact hown6)
       have h := HO5.out.alloc (.cells #[.slice (some ⟨gg1, 0, none⟩) (RL + 1) cap1] 22)
       rw [List.length_append, List.length_singleton, ← HRLH.out]
       simpa [txts] using h
      have HCN : Hid (CovL (susT t ins) st (i + 1) (ts ++ [r ++ [l]])) := by
       have h := HCV.out.push hlt2 (by rw [← HXX.out]; exact HWT.out) HRL40.out
       rw [← HXX.out, HLB.out] at h
       exact h
      clear hown5 hgrow5 hat5 hlt5 hq5 hqw hs5 hown6 hgrow6 hat6 hlt6 hbA hRNA hq6
      go_wp2
      go_roundw
      case rel => exact ⟨i + 1, _, _, by omega, by go_num, HCN.out, HBO.out, HPU.out⟩
      case measure => simp [intOf]; omega)
    ·have hiN : i = EN := by omega
     have HCE : Hid (CovL (susT t ins) st st.edges.length ts) := by unfold Hid; rw [← HEN.out, ← hiN]; exact HCV.out
     have hne : ∀ y ∈ ts, y ≠ [] ∧ y.length ≤ 1000 := fun y hy => by
      obtain ⟨k, hk, rfl⟩ := List.mem_iff_getElem.1 hy
      have hk2 : k < st.edges.length := by have := HCE.out.1; omega
      obtain ⟨ys, -, h40, h3⟩ := HCE.out.2 k hk2 hk2
      rw [List.getElem?_eq_getElem hk] at h3
      rw [Option.some.injEq] at h3
      rw [h3]
      exact ⟨by simp, by rw [List.length_append, List.length_singleton]; omega⟩
     have HRE := Lib.hid (l28Reduce_any B (.slice oa M oc) ts wC HOT2.out.at (by have := HCE.out.1; have := HEN.out; omega) hne)
     have HBC : Hid (Below w.heap.size w wC) := by
      have h3 := HB4.out.trans ((HB35.out.trans (HBL.out.mono hB3)).mono HB4.out.size)
      exact HBA.out.trans (h3.mono hsW)
     clear hcv hbl hot hM hb3C hne hiN
     go_wp2_with fail
     refine Calls.mono HRE.out ?_
     rintro e w9 ⟨v9, vs9, rfl, hb9, ho9⟩
     have HB9 := Lib.hid (HBC.out.trans (hb9.mono HBC.out.size))
     have HO9 := Lib.hid (ho9.lower HBC.out.size)
     obtain ⟨a10, c10, rfl, -, -⟩ := owns_slice ho9.out
     clear hb9 ho9 HRE x3
     go_wp2
     go_ret2
     exact ⟨HB9.out, _, 0, _, vs9, rfl, .inr (.inr ⟨HIF.out, HV.out, st, ts, HOK.out, HCE.out, rfl, rfl⟩), HO9.out⟩
 ·have HIF := Lib.hid hif
  have HVA := Lib.hid (Decides.no HVI hif)
  clear hif HVI
  go_enter Tryz.func31, Tryz.ntmps31
  go_wp2_with fail
  rw [← HWA.out, ← HTB.out]
  refine Calls.mono HVA.out ?_
  rintro e w1 ⟨rfl, hb1⟩
  have HB1 := Lib.hid hb1
  clear hb1 HVA
  go_wp2
  go_ret2
  exact cv_none (HBA.out.trans (HB1.out.mono hsW)) (.inl ⟨HIF.out, rfl, rfl⟩)

end Go.Proofs.YtkbgncenjfebdaaGreatDoor

namespace Go.Proofs.YtkbgncenjfebdaaGreatDoor
open Go Go.RowKit

def idxS (P : ByteArray → Bool) (xs : List ByteArray) : Int := if xs.findIdx P < xs.length then (xs.findIdx P : Nat) else -1
theorem idxS_neg {P : ByteArray → Bool} {xs : List ByteArray} : idxS P xs = -1 ↔ ∀ x ∈ xs, P x = false := by
 unfold idxS
 by_cases h : xs.findIdx P < xs.length
 ·rw [if_pos h]
  refine ⟨fun e => by omega, fun h2 => ?_⟩
  obtain ⟨x, hx, hp⟩ := List.findIdx_lt_length.1 h
  rw [h2 x hx] at hp
  cases hp
 ·rw [if_neg h]
  refine ⟨fun _ x hx => ?_, fun _ => rfl⟩
  cases hp : P x
  ·rfl
  ·exact absurd (List.findIdx_lt_length.2 ⟨x, hx, hp⟩) h
theorem idxS_any {P : ByteArray → Bool} {xs : List ByteArray} : decide (0 ≤ idxS P xs) = xs.any P := by
 unfold idxS
 by_cases h : xs.findIdx P < xs.length
 ·rw [if_pos h]
  obtain ⟨x, hx, hp⟩ := List.findIdx_lt_length.1 h
  rw [List.any_eq_true.2 ⟨x, hx, hp⟩]
  simp
 ·rw [if_neg h]
  have : xs.any P = false := by
   rw [List.any_eq_false]
   intro x hx hp
   exact h (List.findIdx_lt_length.2 ⟨x, hx, hp⟩)
  rw [this]
  rfl
/-- A function of one element that answers P, and turns nothing that was there. -/
def AskS (fid : Nat) (caps : Array Value) (P : ByteArray → Bool) (xs : List ByteArray) (B : Nat) (w : World) : Prop :=
 ∀ w', Below B w w' → ∀ x ∈ xs, Calls Tryz.prog fid (#[.string x] ++ caps) w' fun e w'' => e = .returned (.bool (P x)) ∧ Below w'.heap.size w' w''

set_option maxRecDepth 100000 in
set_option maxHeartbeats 1000000 in
theorem IndexFuncS (lo : Nat) (v : Value) (xs : List ByteArray) (fid : Nat) (caps : Array Value) (P : ByteArray → Bool) (w : World) (hv : SliceK 1 encS lo w v xs) (eg : ∀ args w, (callFunc fid args).run Tryz.prog w = .ok (.enter fid args) w) (hP : AskS fid caps P xs w.heap.size w) :
  Calls Tryz.prog 155 #[v, .func (.func fid) #[] caps] w fun e w' => e = .returned (.int .i64 (idxS P xs)) ∧ Below w.heap.size w w' := by
 obtain ⟨a, c, rfl, hcn, hcc, hrow⟩ := hv
 have HR := Lib.hid hrow
 have HP := Lib.hid hP
 clear hP hrow
 go_enter Tryz.func155, Tryz.ntmps155
 go_wp2_with fail
 go_loopw [8] (fun i wr => ∃ k : Nat, k ≤ xs.length ∧ i = .int .i64 k ∧ Below w.heap.size w wr ∧ ∀ j (h : j < xs.length), j < k → P xs[j] = false) (fun i _ => xs.length - (intOf i).toNat)
 case atStart => exact ⟨0, Nat.zero_le _, rfl, Below.refl _ _, fun _ _ h => by omega⟩
 case round =>
  obtain ⟨k, hk, rfl, hbl, ha⟩ := hrel
  have HA := Lib.hid ha
  have HBL := Lib.hid hbl
  clear ha
  by_cases hlt : k < xs.length
  ·obtain ⟨b1, o1, rfl, -, hbs, c1⟩ := (HR.out.below hbl).one hlt
   simp only [encS, List.getElem?_cons_zero] at c1
   clear hbl
   obtain ⟨x, hx⟩ : ∃ x, x = xs[k] := ⟨_, rfl⟩
   rw [← hx] at c1
   have HX := Lib.hid hx
   have HC := Lib.hid (HP.out wr HBL.out x (by rw [hx]; exact List.getElem_mem _))
   obtain ⟨b, hb⟩ : ∃ b, b = P x := ⟨_, rfl⟩
   rw [← hb] at HC
   have HB := Lib.hid hb
   clear hb hx
   go_wp2_with fail
   refine Calls.mono HC.out ?_
   rintro e w1 ⟨rfl, hb1⟩
   have HB1 := Lib.hid (HBL.out.trans (hb1.mono HBL.out.size))
   clear hb1 c1
   cases b
   ·go_wp2_with fail
    go_roundw
    case rel => exact ⟨k + 1, by omega, by go_num, HB1.out, fun j h hj => by
     by_cases e : j = k
     ·subst e; rw [← HX.out]; exact HB.out.symm
     ·exact HA.out j h (by omega)⟩
    case measure => simp [intOf]; omega
   ·have HI : Hid (idxS P xs = (k : Int)) := by
     unfold Hid idxS
     have h1 : xs.findIdx P = k := by
      rw [List.findIdx_eq hlt]
      exact ⟨by rw [← HX.out]; exact HB.out.symm, fun j hj => HA.out j (by omega) hj⟩
     rw [h1, if_pos hlt]
    go_wp2_with fail
    go_ret
    exact ⟨ret_int HI.out.symm, HB1.out⟩
  ·clear hbl
   have HI : Hid (idxS P xs = -1) := by
    unfold Hid
    rw [idxS_neg]
    intro x hx
    obtain ⟨j, hj, rfl⟩ := List.mem_iff_getElem.1 hx
    exact HA.out j hj (by omega)
   go_wp2_with fail
   go_ret
   exact ⟨ret_int HI.out.symm, HBL.out⟩

end Go.Proofs.YtkbgncenjfebdaaGreatDoor

namespace Go.Proofs.YtkbgncenjfebdaaGreatDoor
open Go Go.RowKit

def idxI (P : Int → Bool) (xs : List Int) : Int := if xs.findIdx P < xs.length then (xs.findIdx P : Nat) else -1
theorem idxI_neg {P : Int → Bool} {xs : List Int} : idxI P xs = -1 ↔ ∀ x ∈ xs, P x = false := by
 unfold idxI
 by_cases h : xs.findIdx P < xs.length
 ·rw [if_pos h]
  refine ⟨fun e => by omega, fun h2 => ?_⟩
  obtain ⟨x, hx, hp⟩ := List.findIdx_lt_length.1 h
  rw [h2 x hx] at hp
  cases hp
 ·rw [if_neg h]
  refine ⟨fun _ x hx => ?_, fun _ => rfl⟩
  cases hp : P x
  ·rfl
  ·exact absurd (List.findIdx_lt_length.2 ⟨x, hx, hp⟩) h
/-- A function of one element that answers P, and turns nothing that was there. -/
def AskI (fid : Nat) (caps : Array Value) (P : Int → Bool) (xs : List Int) (B : Nat) (w : World) : Prop :=
 ∀ w', Below B w w' → ∀ x ∈ xs, Calls Tryz.prog fid (#[.int .i64 x] ++ caps) w' fun e w'' => e = .returned (.bool (P x)) ∧ Below w'.heap.size w' w''

set_option maxRecDepth 100000 in
set_option maxHeartbeats 1000000 in
theorem IndexFuncI (lo : Nat) (v : Value) (xs : List Int) (fid : Nat) (caps : Array Value) (P : Int → Bool) (w : World) (hv : SliceK 1 encI lo w v xs) (eg : ∀ args w, (callFunc fid args).run Tryz.prog w = .ok (.enter fid args) w) (hP : AskI fid caps P xs w.heap.size w) :
  Calls Tryz.prog 172 #[v, .func (.func fid) #[] caps] w fun e w' => e = .returned (.int .i64 (idxI P xs)) ∧ Below w.heap.size w w' := by
 obtain ⟨a, c, rfl, hcn, hcc, hrow⟩ := hv
 have HR := Lib.hid hrow
 have HP := Lib.hid hP
 clear hP hrow
 go_enter Tryz.func172, Tryz.ntmps172
 go_wp2_with fail
 go_loopw [8] (fun i wr => ∃ k : Nat, k ≤ xs.length ∧ i = .int .i64 k ∧ Below w.heap.size w wr ∧ ∀ j (h : j < xs.length), j < k → P xs[j] = false) (fun i _ => xs.length - (intOf i).toNat)
 case atStart => exact ⟨0, Nat.zero_le _, rfl, Below.refl _ _, fun _ _ h => by omega⟩
 case round =>
  obtain ⟨k, hk, rfl, hbl, ha⟩ := hrel
  have HA := Lib.hid ha
  have HBL := Lib.hid hbl
  clear ha
  by_cases hlt : k < xs.length
  ·obtain ⟨b1, o1, rfl, -, hbs, c1⟩ := (HR.out.below hbl).one hlt
   simp only [encI, List.getElem?_cons_zero] at c1
   clear hbl
   obtain ⟨x, hx⟩ : ∃ x, x = xs[k] := ⟨_, rfl⟩
   rw [← hx] at c1
   have HX := Lib.hid hx
   have HC := Lib.hid (HP.out wr HBL.out x (by rw [hx]; exact List.getElem_mem _))
   obtain ⟨b, hb⟩ : ∃ b, b = P x := ⟨_, rfl⟩
   rw [← hb] at HC
   have HB := Lib.hid hb
   clear hb hx
   go_wp2_with fail
   refine Calls.mono HC.out ?_
   rintro e w1 ⟨rfl, hb1⟩
   have HB1 := Lib.hid (HBL.out.trans (hb1.mono HBL.out.size))
   clear hb1 c1
   cases b
   ·go_wp2_with fail
    go_roundw
    case rel => exact ⟨k + 1, by omega, by go_num, HB1.out, fun j h hj => by
     by_cases e : j = k
     ·subst e; rw [← HX.out]; exact HB.out.symm
     ·exact HA.out j h (by omega)⟩
    case measure => simp [intOf]; omega
   ·have HI : Hid (idxI P xs = (k : Int)) := by
     unfold Hid idxI
     have h1 : xs.findIdx P = k := by
      rw [List.findIdx_eq hlt]
      exact ⟨by rw [← HX.out]; exact HB.out.symm, fun j hj => HA.out j (by omega) hj⟩
     rw [h1, if_pos hlt]
    go_wp2_with fail
    go_ret
    exact ⟨ret_int HI.out.symm, HB1.out⟩
  ·clear hbl
   have HI : Hid (idxI P xs = -1) := by
    unfold Hid
    rw [idxI_neg]
    intro x hx
    obtain ⟨j, hj, rfl⟩ := List.mem_iff_getElem.1 hx
    exact HA.out j hj (by omega)
   go_wp2_with fail
   go_ret
   exact ⟨ret_int HI.out.symm, HBL.out⟩

end Go.Proofs.YtkbgncenjfebdaaGreatDoor

namespace Go.Proofs.YtkbgncenjfebdaaGreatDoor
open Go Go.RowKit

set_option maxRecDepth 100000 in
set_option maxHeartbeats 2000000 in
theorem DeleteFuncI (B : Nat) (v : Value) (xs : List Int) (fid : Nat) (caps : Array Value) (P : Int → Bool) (w0 w : World) (ho : w.ownsRow B 2 1 v xs.length (xs.map (Value.int .i64))) (hb : Below B w0 w) (hB : B ≤ w.heap.size)
  (eg : ∀ args w, (callFunc fid args).run Tryz.prog w = .ok (.enter fid args) w) (hP : AskI fid caps P xs B w0) :
  Calls Tryz.prog 124 #[v, .func (.func fid) #[] caps] w fun e w' => ∃ v', e = .returned v' ∧ Below B w0 w' ∧ w'.ownsRow B 2 1 v' (xs.filter fun x => !P x).length ((xs.filter fun x => !P x).map (Value.int .i64)) := by
 have HP := Lib.hid hP
 have HB := Lib.hid hb
 have HO := Lib.hid ho
 have HIX := Lib.hid (IndexFuncI B v xs fid caps P w (SliceK.of_owns (e := 2) encI_len rfl (by rw [flat_encI]; exact ho)) eg fun w' hb' x hx => hP w' (hb.trans (hb'.mono hB)) x hx)
 have HHB := Lib.hid hB
 obtain ⟨a, c, rfl, hnc, hcc⟩ := owns_slice ho
 obtain ⟨r, hr⟩ : ∃ r, r = idxI P xs := ⟨_, rfl⟩
 rw [← hr] at HIX
 have HRI := Lib.hid hr
 obtain ⟨nx, hnx⟩ : ∃ nx, nx = xs.length := ⟨_, rfl⟩
 have HNX := Lib.hid hnx
 rw [← hnx] at HIX hnc ⊢
 clear hP hb ho hB hr hnx
 by_cases hneg : r = -1
 ·subst hneg
  have HF : Hid ((xs.filter fun x => !P x) = xs) := by
   unfold Hid
   rw [List.filter_eq_self]
   intro x hx
   rw [idxI_neg.1 HRI.out.symm x hx]
   rfl
  go_enter Tryz.func124, Tryz.ntmps124
  go_wp2_with fail
  refine Calls.mono HIX.out ?_
  rintro e w1 ⟨rfl, hb1⟩
  have HB1 := Lib.hid (HB.out.trans (hb1.mono HHB.out))
  have HO1 := Lib.hid (owns_below HO.out hb1)
  clear hb1 HIX
  go_wp2_with fail
  go_ret
  refine ⟨_, rfl, HB1.out, ?_⟩
  rw [HF.out, ← HNX.out]
  have h := HO1.out
  rw [← HNX.out] at h
  exact h
 ·obtain ⟨k0, hk0, hlt0, hp0, hpl⟩ : ∃ k0 : Nat, r = (k0 : Int) ∧ k0 < nx ∧ (∃ h : k0 < xs.length, P xs[k0] = true) ∧ ∀ j (h : j < xs.length), j < k0 → P xs[j] = false := by
   have h1 := HRI.out
   have h2 := HNX.out
   unfold idxI at h1
   by_cases hf : xs.findIdx P < xs.length
   ·rw [if_pos hf] at h1
    refine ⟨xs.findIdx P, h1, by omega, ⟨hf, List.findIdx_getElem (w := hf)⟩, fun j hj hjk => ?_⟩
    have := List.not_of_lt_findIdx hjk
    simpa using this
   ·rw [if_neg hf] at h1
    exact absurd h1 hneg
  subst hk0
  obtain ⟨g, ha2, hgB⟩ : ∃ g, a = some ⟨g, 0, none⟩ ∧ B ≤ g := by
   rcases HO.out.2 with ⟨e, e2⟩ | ⟨g, cap, cur, e, h1, -⟩
   ·have := HNX.out; omega
   ·simp only [Value.slice.injEq] at e
    exact ⟨g, e.1, h1⟩
  subst ha2
  have HGB := Lib.hid hgB
  have HIN : Hid (KeptIn P xs k0 (k0 + 1) (fun x => ((Value.int .i64) x))  (xs.map (Value.int .i64))) := KeptIn.start (by have := HNX.out; omega) hpl hp0.2
  have hne1 : ((k0 : Int) == -1) = false := beq_eq_false_iff_ne.2 (by omega)
  clear hneg hp0 hpl HRI
  go_enter Tryz.func124, Tryz.ntmps124
  go_wp2_with fail
  refine Calls.mono HIX.out ?_
  rintro e w1 ⟨rfl, hb1⟩
  have HB1 := Lib.hid (HB.out.trans (hb1.mono HHB.out))
  have HO1 : Hid (CellsAt w1 g 2 nx c (xs.map (Value.int .i64))) := CellsAt.of_owns (by have h := owns_below HO.out hb1; rw [← HNX.out] at h; exact h)
  clear hb1 HIX
  go_wp2_with fail
  go_loopw [5, 6, 7] (fun s5 s6 _ wr => ∃ (i j : Nat) (cs : List Value), s5 = .int .i64 i ∧ s6 = .int .i64 j ∧ j ≤ nx ∧ Below B w0 wr ∧ CellsAt wr g 2 nx c cs ∧ KeptIn P xs i j (fun x => (Value.int .i64) x) cs) (fun _ s6 _ _ => nx - (intOf s6).toNat)
  case atStart => exact ⟨k0, k0 + 1, _, rfl, by go_num, by omega, HB1.out, HO1.out, HIN.out⟩
  case round =>
   obtain ⟨i, j, cs, rfl, rfl, hj, hbl, hca, hki⟩ := hrel
   have HBL := Lib.hid hbl
   have HCA := Lib.hid hca
   have HKI := Lib.hid hki
   have hij := hki.lt
   by_cases hlt : j < nx
   ·have hltx : j < xs.length := by have := HNX.out; omega
    obtain ⟨x, hx⟩ : ∃ x, x = xs[j] := ⟨_, rfl⟩
    have HX := Lib.hid hx
    have cj : wr.cell? ⟨g, j, none⟩ = some (.int .i64 x) := by
     have h1 := hca.cell j (by omega)
     have h2 := hki.high j hltx (Nat.le_refl _)
     rw [h1, h2, hx]
    have ci := hca.cell_some i (by omega)
    obtain ⟨old, ci⟩ := ci
    have fi := hca.frozen i
    have hgl := hca.lt
    have HC := Lib.hid (HP.out wr hbl x (by rw [hx]; exact List.getElem_mem _))
    obtain ⟨b, hb⟩ : ∃ b, b = P x := ⟨_, rfl⟩
    rw [← hb] at HC
    have HBP := Lib.hid hb
    clear hb hx hbl hca hki ci fi
    go_wp2_with fail
    refine Calls.mono HC.out ?_
    rintro e w2 ⟨rfl, hb2⟩
    have HBL2 := Lib.hid (HBL.out.trans (hb2.mono (show B ≤ wr.heap.size from by have := HGB.out; omega)))
    have hca2 := HCA.out.below hb2
    have HCA2 := Lib.hid hca2
    obtain ⟨old, ci⟩ := hca2.cell_some i (by omega)
    have fi := hca2.frozen i
    clear hb2 hca2 cj
    cases b
    ·go_wp2_with fail
     go_roundw
     case rel => exact ⟨i + 1, j + 1, cs.set i (.int .i64 x), by go_num, by go_num, by omega, HBL2.out.setCell HGB.out _, HCA2.out.set i (by omega) _, by have h := HKI.out.keep hltx (by rw [← HX.out]; exact HBP.out.symm); rw [← HX.out] at h; exact h⟩
     case measure => simp [intOf]; omega
    ·go_wp2_with fail
     go_roundw
     case rel => exact ⟨i, j + 1, cs, rfl, by go_num, by omega, HBL2.out, HCA2.out, HKI.out.drop hltx (by rw [← HX.out]; exact HBP.out.symm)⟩
     case measure => simp [intOf]; omega
   ·obtain rfl : j = nx := by omega
    have HLEN : Hid ((xs.filter fun x => !P x).length = i ∧ i ≤ j ∧ (xs.filter fun x => !P x).map (Value.int .i64) = cs.take i) := by
     have h := hki.all (by have := HNX.out; omega)
     exact ⟨h.1, by omega, h.2⟩
    have hij2 : i < j := hij
    have hcl : ∀ ty, (Builtin.clear_ #[56] ty #[.slice (some ⟨g, i, none⟩) (j - i) (c - i)]).run Tryz.prog wr = .ok (.tuple #[]) (wr.setCells g i (List.replicate (j - i) (.int .i64 0))) :=
     fun ty => Lib.run_clear_slice wr _ _ ty _ Tryz.underlying56 (fun w => by kernel_rfl) rfl rfl g i _ _ (by omega) (fun t ht => by obtain ⟨o, ho⟩ := hca.cell_some (i + t) (by omega); rw [ho]; rfl) (fun t ht => hca.frozen (i + t))
    have HCAF : Hid (CellsAt (wr.setCells g i (List.replicate (j - i) (.int .i64 0))) g 2 j c (cs.take i ++ List.replicate (j - i) (.int .i64 0))) := hca.clear hij2
    have HBF : Hid (Below B w0 (wr.setCells g i (List.replicate (j - i) (.int .i64 0)))) := below_setCells HGB.out _ _ _ hbl
    clear hbl hca hki hij
    go_wp2_with fail
    go_ret
    refine ⟨_, rfl, HBF.out, ?_⟩
    rw [HLEN.out.1, HLEN.out.2.2]
    exact HCAF.out.owns (by rw [List.take_append_of_le_length (by have := HCAF.out.len; simp at this ⊢; omega), List.take_take]; simp) HLEN.out.2.1 HGB.out hnc hcc

end Go.Proofs.YtkbgncenjfebdaaGreatDoor
