/-
  The implementation's ReduceTests.
  Each state of a deterministic system has a first word that leads to it. Plain.
  The implementation's CoveringTests.
  What a size that fits says of a system's parts.
  What a size that fits says of texts; a call that turns one block.
  The functions of the laws that mark texts, edges, a system: what they turn.
  A list of texts of the call's own: marked, held.
-/
import Derived.Test.YtkbgncenjfebdaaGreatDoorV22
import Derived.Test.YtkbgncenjfebdaaGreatDoorV27
import Derived.Test.YtkbgncenjfebdaaGreatDoorV21
import Derived.Test.YtkbgncenjfebdaaGreatDoorV23
import Derived.Test.YtkbgncenjfebdaaGreatDoorV25
import Derived.Deep.RegionHeld3
import Derived.Deep.AppendLies
import Derived.Test.YtkbgncenjfebdaaGreatDoorV19
import Derived.Test.YtkbgncenjfebdaaGreatDoorV10
namespace Go.Proofs.YtkbgncenjfebdaaGreatDoor
open Go Go.RowKit

noncomputable section
open Classical in
def eqB (xs ys : List ByteArray) : Bool := decide (xs = ys)
open Classical in
/-- The second list begins the first one, which is longer. -/
def begB (xs ys : List ByteArray) : Bool := decide (ys <+: xs ∧ ys.length < xs.length)
end
open Classical in
theorem eqB_of {xs ys : List ByteArray} {b : Bool} (h : b = true ↔ xs = ys) : b = eqB xs ys := by unfold eqB; rw [Bool.eq_iff_iff, decide_eq_true_eq]; exact h
open Classical in
theorem begB_of {xs ys : List ByteArray} {b : Bool} (h : b = true ↔ ys <+: xs ∧ ys.length < xs.length) : b = begB xs ys := by unfold begB; rw [Bool.eq_iff_iff, decide_eq_true_eq]; exact h
open Classical in
theorem eqB_iff {xs ys : List ByteArray} : eqB xs ys = true ↔ xs = ys := by unfold eqB; rw [decide_eq_true_eq]
open Classical in
theorem begB_iff {xs ys : List ByteArray} : begB xs ys = true ↔ ys <+: xs ∧ ys.length < xs.length := by unfold begB; rw [decide_eq_true_eq]
theorem kept_not {ts : List (List ByteArray)} {i : Nat} (hi : i < ts.length) (h1 : ∃ k, k < i ∧ eqB (ts.getD k []) ts[i] = true) : ¬ Kept ts i := fun hK => by
 obtain ⟨k, hk, he⟩ := h1
 have hk2 : k < ts.length := by omega
 rw [List.getD_eq_getElem?_getD, List.getElem?_eq_getElem hk2, Option.getD_some, eqB_iff] at he
 exact hK k _ _ (List.getElem?_eq_getElem hi) (List.getElem?_eq_getElem hk2) (by rw [he]; exact List.prefix_refl _) (.inr hk)
theorem kept_iff {ts : List (List ByteArray)} {i : Nat} (hi : i < ts.length) {b1 b2 : Bool} (h1 : b1 = true ↔ ∃ k, k < i ∧ eqB (ts.getD k []) ts[i] = true) (h2 : b2 = true ↔ ∃ k, k < ts.length ∧ begB (ts.getD k []) ts[i] = true) : Kept ts i ↔ b1 = false ∧ b2 = false := by
 have hg : ∀ k (h : k < ts.length), ts.getD k [] = ts[k] := fun k h => by rw [List.getD_eq_getElem?_getD, List.getElem?_eq_getElem h]; rfl
 constructor
 ·intro hK
  refine ⟨Bool.eq_false_iff.2 fun h => ?_, Bool.eq_false_iff.2 fun h => ?_⟩
  ·obtain ⟨k, hk, he⟩ := h1.1 h
   have hk2 : k < ts.length := by omega
   rw [hg k hk2, eqB_iff] at he
   exact hK k _ _ (List.getElem?_eq_getElem hi) (List.getElem?_eq_getElem hk2) (by rw [he]; exact List.prefix_refl _) (.inr hk)
  ·obtain ⟨k, hk, he⟩ := h2.1 h
   rw [hg k hk, begB_iff] at he
   exact hK k _ _ (List.getElem?_eq_getElem hi) (List.getElem?_eq_getElem hk) he.1 (.inl he.2)
 ·rintro ⟨e1, e2⟩ k a b ha hb hp hor
  obtain ⟨hk, hkb⟩ := List.getElem?_eq_some_iff.1 hb
  rw [List.getElem?_eq_getElem hi] at ha
  cases ha
  subst hkb
  by_cases hl : ts[i].length < ts[k].length
  ·have := h2.2 ⟨k, hk, by rw [hg k hk, begB_iff]; exact ⟨hp, hl⟩⟩
   rw [e2] at this
   cases this
  ·have hki : k < i := hor.elim (fun h => absurd h hl) id
   have he : ts[k] = ts[i] := (hp.eq_of_length (by have := hp.length_le; omega)).symm
   have := h1.2 ⟨k, hki, by rw [hg k hk, eqB_iff]; exact he⟩
   rw [e1] at this
   cases this
/-- A slice's first elements. -/
theorem SliceK.headV {lo n c : Nat} {a : Option Addr} {w : World} {xs : List Value} (h : SliceK 1 encV lo w (.slice a n c) xs) {m : Nat} (hm : m ≤ n) : SliceK 1 encV lo w (.slice a m c) (xs.take m) := by
 obtain ⟨b9, c9, h2, h3, h4, h5⟩ := h
 simp only [Value.slice.injEq] at h2
 obtain ⟨rfl, rfl, rfl⟩ := h2
 refine ⟨_, _, by rw [List.length_take]; congr 1; omega, by rw [List.length_take]; omega, by omega, ?_⟩
 rcases h5 with h5 | ⟨b, o, h6, h7, h8, h9⟩
 ·left; rw [List.length_take]; omega
 ·refine .inr ⟨b, o, h6, h7, h8, fun i hi j hj => ?_⟩
  rw [List.length_take] at hi
  rw [h9 i (by omega) j hj, List.getElem_take]

set_option maxRecDepth 100000 in
theorem red1_any (lo lo' tb : Nat) (va vb : Value) (xs ys : List ByteArray) (w : World) (hva : SliceK 1 encS lo w va xs) (hvb : SliceK 1 encS lo' w vb ys) (hb : Blk w tb [vb] 22) (hz : xs.length ≤ 1048576) (hz2 : ys.length ≤ 1048576) :
  Calls Tryz.prog 114 #[va, .pointer (some ⟨tb, 0, none⟩)] w fun e w' => e = .returned (.bool (eqB xs ys)) ∧ Below w.heap.size w w' := by
 have HE := Lib.hid (EqualS_any lo lo' va vb xs ys w hva hvb hz hz2)
 have x0 := hb.cell 0 rfl
 clear hva hvb hb
 go_enter Tryz.func114, Tryz.ntmps114
 go_wp2_with fail
 refine Calls.mono HE.out ?_
 rintro e w1 ⟨b, rfl, hb, hb1⟩
 have HB := Lib.hid (eqB_of hb)
 have HB1 := Lib.hid hb1
 clear hb hb1 x0 HE
 go_wp2
 go_ret
 exact ⟨by rw [← HB.out]; rfl, HB1.out⟩
set_option maxRecDepth 100000 in
theorem red2_any (lo lo' tb : Nat) (va vb : Value) (xs ys : List ByteArray) (w : World) (hva : SliceK 1 encS lo w va xs) (hvb : SliceK 1 encS lo' w vb ys) (hb : Blk w tb [vb] 22) (hz : xs.length ≤ 1048576) (hz2 : ys.length ≤ 1048576) :
  Calls Tryz.prog 116 #[va, .pointer (some ⟨tb, 0, none⟩)] w fun e w' => e = .returned (.bool (begB xs ys)) ∧ Below w.heap.size w w' := by
 have HE := Lib.hid (begins_any lo lo' va vb xs ys w hva hvb hz hz2)
 have x0 := hb.cell 0 rfl
 clear hva hvb hb
 go_enter Tryz.func116, Tryz.ntmps116
 go_wp2_with fail
 refine Calls.mono HE.out ?_
 rintro e w1 ⟨b, rfl, hb, hb1⟩
 have HB := Lib.hid (begB_of hb)
 have HB1 := Lib.hid hb1
 clear hb hb1 x0 HE
 go_wp2
 go_ret
 exact ⟨by rw [← HB.out]; rfl, HB1.out⟩

set_option maxRecDepth 100000 in
set_option maxHeartbeats 4000000 in
theorem ReduceTests_any (lo : Nat) (v : Value) (ts : List (List ByteArray)) (w : World) (hv : StrssAt lo w v ts) (hz : ts.length ≤ 1000) (hz2 : ∀ x ∈ ts, x ≠ [] ∧ x.length ≤ 1000) :
  Calls Tryz.prog 72 #[v] w fun e w' => ∃ v' vs, e = .returned v' ∧ Below w.heap.size w w' ∧ OwnStrss w.heap.size w' v' vs (redTo ts ts.length) := by
 have HZ2 := Lib.hid hz2
 obtain ⟨rs, hrl, hrow, hss⟩ := hv
 have HRW := Lib.hid hrow
 obtain ⟨a, c, rfl, hc, -, hrk⟩ := hrow
 have HSS := Lib.hid hss
 have HRK := Lib.hid hrk
 obtain ⟨N, hN⟩ : ∃ N, N = ts.length := ⟨_, rfl⟩
 rw [hrl] at HRW
 rw [hrl, ← hN] at hc
 rw [← hN] at hz HRW ⊢
 have hrN : rs.length = N := by rw [hrl, hN]
 rw [hrN]
 have HRN := Lib.hid hrN
 have HN := Lib.hid hN
 obtain ⟨i2, hi2, hz20, hz21, hz22⟩ := info_parts info_strsR
 clear hz2 hN hrl hss hrk hrN
 go_enter Tryz.func72, Tryz.ntmps72
 go_wp2
 go_loopw [3, 9] (fun v3 v9 wr => ∃ (i : Nat) (vs : List Value), i ≤ N ∧ v9 = .int .i64 i ∧ Below w.heap.size w wr ∧ OwnStrss w.heap.size wr v3 vs (redTo ts i)) (fun _ v9 _ => N - (intOf v9).toNat)
 case atStart => exact ⟨0, [], Nat.zero_le _, rfl, Below.refl _ _, OwnStrss.none _ _⟩
 case round =>
  obtain ⟨i, vs, hi, rfl, hbl, hos⟩ := hrel
  obtain ⟨wC, rfl⟩ : ∃ wC : World, wC = wr := ⟨_, rfl⟩
  have HBL := Lib.hid hbl
  have HOS := Lib.hid hos
  have hsz := hbl.size
  obtain ⟨oa, oc, rfl, -, -⟩ := owns_slice hos.out
  obtain ⟨M, hM⟩ : ∃ M, M = vs.length := ⟨_, rfl⟩
  have hMi : M ≤ i := by rw [hM, hos.len]; exact redTo_len ts i
  rw [← hM] at HOS ⊢
  have HM := Lib.hid hM
  by_cases hlt : i < N
  ·have hlt2 : i < ts.length := by rw [← HN.out]; exact hlt
   have hlr : i < rs.length := by rw [HRN.out]; exact hlt
   obtain ⟨b, o, rfl, -, hbw, hcu⟩ := (HRK.out.below hbl).one hlr
   simp only [encV, List.getElem?_cons_zero] at hcu
   have hsu := (HSS.out i hlr hlt2).below hbl
   have hxl := (HZ2.out _ (List.getElem_mem hlt2)).2
   obtain ⟨x, hxx⟩ : ∃ x, x = ts[i] := ⟨_, rfl⟩
   obtain ⟨u, hu⟩ : ∃ u, u = rs[i] := ⟨_, rfl⟩
   rw [← hu] at hcu hsu
   rw [← hxx] at hsu hxl
   obtain ⟨ua, uc, hue, -⟩ := id hsu
   obtain ⟨ul, hul⟩ : ∃ ul, ul = x.length := ⟨_, rfl⟩
   rw [← hul] at hue
   clear hul
   obtain ⟨WB, hWB⟩ : ∃ WB, WB = wC.alloc (.cells #[u] 22) := ⟨_, rfl⟩
   obtain ⟨tb, htb⟩ : ∃ tb, tb = wC.heap.size := ⟨_, rfl⟩
   have hbB : Below wC.heap.size wC WB := by rw [hWB]; exact (Below.refl _ _).alloc (Nat.le_refl _) _
   have hTB : Blk WB tb [u] 22 := by rw [hWB, htb]; exact Blk.new wC _ _
   have hwB : Below w.heap.size w WB := hbl.trans (hbB.mono hsz)
   have HTB := Lib.hid hTB
   have HBB := Lib.hid hbB
   have HWB := Lib.hid hwB
   have HSU := Lib.hid (hsu.below hbB)
   have HSR := HRW.out.below hwB
   have hsB : w.heap.size ≤ WB.heap.size := hwB.size
   have hg : ∀ k (h : k < ts.length), ts.getD k [] = ts[k] := fun k h => by rw [List.getD_eq_getElem?_getD, List.getElem?_eq_getElem h]; rfl
   have HC1 : Hid (Calls Tryz.prog 113 #[.slice (some ⟨b, o, none⟩) i c, .func (.func 114) #[] #[.pointer (some ⟨tb, 0, none⟩)]] WB fun e w' => ∃ r : Bool, e = .returned (.bool r) ∧ (r = true ↔ ∃ k, k < i ∧ eqB (ts.getD k []) x = true) ∧ Below WB.heap.size WB w') := by
    have h := ContainsFuncV lo (.slice (some ⟨b, o, none⟩) i c) (rs.take i) 114 #[.pointer (some ⟨tb, 0, none⟩)] (fun k => eqB (ts.getD k []) x) WB (HSR.headV (by omega)) (fun args w => by kernel_rfl) (fun w' hb k hk => by
     rw [List.length_take] at hk
     have hk2 : k < ts.length := by have := HN.out; omega
     simp only [List.getElem_take, hg k hk2]
     exact red1_any lo lo tb _ u ts[k] x w' ((HSS.out k (by omega) hk2).below (hwB.trans (hb.mono hsB))) (HSU.out.below hb) (hTB.below hb) (by have := (HZ2.out _ (List.getElem_mem hk2)).2; omega) (by omega))
    rw [List.length_take, Nat.min_eq_left (by have := HRN.out; omega)] at h
    exact h
   have HC2 : Hid (∀ w', Below WB.heap.size WB w' → Calls Tryz.prog 113 #[.slice (some ⟨b, o, none⟩) N c, .func (.func 116) #[] #[.pointer (some ⟨tb, 0, none⟩)]] w' fun e w'' => ∃ r : Bool, e = .returned (.bool r) ∧ (r = true ↔ ∃ k, k < N ∧ begB (ts.getD k []) x = true) ∧ Below w'.heap.size w' w'') := fun w' hb0 => by
    have h := ContainsFuncV lo (.slice (some ⟨b, o, none⟩) N c) rs 116 #[.pointer (some ⟨tb, 0, none⟩)] (fun k => begB (ts.getD k []) x) w' (HSR.below hb0) (fun args w => by kernel_rfl) (fun w2 hb k hk => by
     have hk2 : k < ts.length := by have := HN.out; have := HRN.out; omega
     simp only [hg k hk2]
     have hbb := hb0.trans (hb.mono hb0.size)
     exact red2_any lo lo tb _ u ts[k] x w2 ((HSS.out k (by omega) hk2).below (hwB.trans (hbb.mono hsB))) (HSU.out.below hbb) (hTB.below hbb) (by have := (HZ2.out _ (List.getElem_mem hk2)).2; omega) (by omega))
    rw [HRN.out] at h
    exact h
   have HXX := Lib.hid hxx
   have HWBE := Lib.hid hWB
   have HTBE := Lib.hid htb
   have HCL : Hid (∀ w', Below WB.heap.size WB w' → Calls Tryz.prog 71 #[u] w' fun e w'' => ∃ v', e = .returned v' ∧ w''.ownsRow w'.heap.size 9 1 v' x.length (x.map Value.string) ∧ Below w'.heap.size w' w'') := fun w' hb => CloneS_own lo u x w' (HSU.out.below hb) (by omega)
   have hic : i ≤ c := by omega
   clear hbl hos hM hsu hxx hu hWB htb hbB hTB hwB HSR hg hxl
   subst hue
   go_wp2_with fail
   rw [← HWBE.out]
   try rw [← HTBE.out]
   refine Calls.mono HC1.out ?_
   rintro e w1 ⟨r1, rfl, hr1, hb1⟩
   have HR1 := Lib.hid hr1
   have HB1 := Lib.hid hb1
   have HC21 := Lib.hid (HC2.out w1 hb1)
   clear hr1 hb1 HC1 HC2 hcu
   cases r1
   ·go_wp2_with fail
    refine Calls.mono HC21.out ?_
    rintro e w2 ⟨r2, rfl, hr2, hb2⟩
    have hB2 := HB1.out.trans (hb2.mono HB1.out.size)
    have HB2 := Lib.hid hB2
    have HK := Lib.hid (kept_iff hlt2 (by rw [← HXX.out]; exact HR1.out) (by rw [← HXX.out, ← HN.out]; exact hr2))
    have HW2 := Lib.hid (HWB.out.trans (hB2.mono hsB))
    have HOS2 := Lib.hid ((HOS.out.below HBB.out).below hB2)
    have HCL2 := Lib.hid (HCL.out w2 hB2)
    have hsW := HW2.out.size
    have t0 := (HTB.out.below hB2).cell 0 rfl
    clear hr2 hb2 hB2 HC21 HCL
    cases r2
    ·have HRD : Hid (redTo ts (i + 1) = redTo ts i ++ [x]) := by
      unfold Hid
      rw [redTo_yes hlt2 (HK.out.2 ⟨rfl, rfl⟩), HXX.out]
     go_wp2_with fail
     refine Calls.mono HCL2.out ?_
     rintro e w3 ⟨v3, rfl, ho3, hb3⟩
     obtain ⟨va, vc, rfl, -, -⟩ := owns_slice ho3
     obtain ⟨XL, hXL⟩ : ∃ XL, XL = x.length := ⟨_, rfl⟩
     have HXL := Lib.hid hXL
     have HO3 := Lib.hid ho3
     have HB3 := Lib.hid hb3
     have hs3 := hb3.size
     have HRO : Hid (w3.ownsRow w.heap.size 22 1 (.slice oa M oc) M vs) := by
      have h := owns_below HOS2.out.out hb3
      rw [← HM.out] at h
      exact h
     rw [← hXL]
     clear ho3 hb3 hXL t0 HCL2
     go_wp2_with (at_builtin; refine wpList_append_own _ rfl _ _ 42 rfl w.heap.size 22 i2 (.slice none 0 0) 1 24 Tryz.underlying42 hi2 hz20 hz21 hz22 rfl (by decide) _ M _ rfl (HRO.out.alloc _) ⟨w3.heap.size, 0, none⟩ 1 1 [.slice va XL vc] rfl rfl ?f1 ?f2 ?f3 ?f4 ?f5 ?_)
     case f1 => exact World.news_of_block (cs := #[.slice va XL vc]) (t := 22) (fr := (0, 0)) (heap_alloc_new _ _)
     case f2 => first | rfl | (intro u hu; simp at hu; subst hu; rfl)
     case f3 => first | omega | (simp [maxLen]; omega)
     case f4 => first | omega | (simp; omega)
     case f5 => first | omega | (simp; omega)
     intro v4 w4 ho4 hg4 _
     have HbA : Hid (Below w2.heap.size w2 (w3.alloc (.cells #[.slice va XL vc] 22))) := HB3.out.alloc hs3 _
     have HBO : Hid (Below w.heap.size w w4) := (HW2.out.trans (HbA.out.mono hsW)).grown hg4 (by have := HbA.out.size; omega) (fun b e => (HRO.out.lt b e).1)
     have HPU : Hid (OwnStrss w.heap.size w4 v4 (vs ++ [.slice va XL vc]) (redTo ts i ++ [x])) := by
      refine OwnStrss.push (GE := w2.heap.size) HOS2.out (Nat.le_refl _) hsW HbA.out ?_ hg4 (by rw [← HM.out]; exact ho4)
      have h := HO3.out.alloc (.cells #[.slice va XL vc] 22)
      rw [HXL.out] at h ⊢
      exact h
     clear ho4 hg4
     go_wp2
     go_roundw
     case rel => exact ⟨i + 1, _, by omega, by go_num, HBO.out, by rw [HRD.out]; exact HPU.out⟩
     case measure => simp [intOf]; omega
    ·have HRD : Hid (redTo ts (i + 1) = redTo ts i) := redTo_no fun h => by have := (HK.out.1 h).2; cases this
     clear t0
     go_wp2
     go_roundw
     case rel => exact ⟨i + 1, vs, by omega, by go_num, HW2.out, by rw [HRD.out]; exact HOS2.out⟩
     case measure => simp [intOf]; omega
   ·have HRD : Hid (redTo ts (i + 1) = redTo ts i) := redTo_no (kept_not hlt2 (by rw [← HXX.out]; exact HR1.out.1 rfl))
    have HW1 := Lib.hid (HWB.out.trans (HB1.out.mono hsB))
    have HOS1 := Lib.hid ((HOS.out.below HBB.out).below HB1.out)
    clear HC21 HCL
    go_wp2
    go_roundw
    case rel => exact ⟨i + 1, vs, by omega, by go_num, HW1.out, by rw [HRD.out]; exact HOS1.out⟩
    case measure => simp [intOf]; omega
  ·have hiN : i = N := by omega
   have HOF : Hid (OwnStrss w.heap.size wC (.slice oa M oc) vs (redTo ts N)) := by unfold Hid; rw [← hiN]; exact HOS.out
   clear hbl hos hM
   go_wp2
   go_ret
   exact ⟨_, vs, rfl, HBL.out, HOF.out⟩

end Go.Proofs.YtkbgncenjfebdaaGreatDoor

namespace Go.Proofs.YtkbgncenjfebdaaGreatDoor
open Go Go.RowKit

theorem ways_row {t : Lts} {st : DNet} (hv : Valid t) (hok : DOk t st) {i : Nat} {u : List Nat} (n : Nat) :
  ∀ (N : List (List Nat)) (k : Nat), t.labels.length - 1 - k ≤ n → k ≤ t.labels.length - 1 → WaySt t st N i k → N[i]? = some u → ∃ N', WaySt t st N' i (t.labels.length - 1) ∧ N'[i]? = some u := by
 induction n with
 | zero =>
  intro N k h1 h2 hw hu
  obtain rfl : k = t.labels.length - 1 := by omega
  exact ⟨N, hw, hu⟩
 | succ n ih =>
  intro N k h1 h2 hw hu
  by_cases e : k = t.labels.length - 1
  ·subst e; exact ⟨N, hw, hu⟩
  ·have hk : k + 1 < t.labels.length := by omega
   by_cases hd : goTo (dSys t st) i (labK t.labels k) < 0 ∨ ∃ j : Nat, j < N.length ∧ goTo (dSys t st) i (labK t.labels k) = j
   ·exact ih N (k + 1) (by omega) (by omega) (hw.pass hv hok hu hk hd) hu
   ·have h0 : ¬ goTo (dSys t st) i (labK t.labels k) < 0 := fun h => hd (.inl h)
    have h3 := hw.meet hv hok hu hk h0 fun j hj e2 => hd (.inr ⟨j, hj, e2⟩)
    have hi := (List.getElem?_eq_some_iff.1 hu).1
    exact ih _ (k + 1) (by omega) (by omega) h3.2 (by rw [List.getElem?_append_left hi]; exact hu)
theorem ways_from {t : Lts} {st : DNet} (hv : Valid t) (hok : DOk t st) (n : Nat) : ∀ (N : List (List Nat)) (i : Nat), st.rows.length - i ≤ n → WaySt t st N i 0 → ∃ N', WaysAll t st N' := by
 induction n with
 | zero =>
  intro N i h hw
  have h1 := hw.few
  exact ⟨N, hw.all hok (by omega)⟩
 | succ n ih =>
  intro N i h hw
  by_cases hi : i < N.length
  ·obtain ⟨N', h1, h2⟩ := ways_row hv hok (u := N[i]) _ N 0 (Nat.le_refl _) (Nat.zero_le _) hw (List.getElem?_eq_getElem hi)
   exact ih N' (i + 1) (by have := hw.few; omega) (h1.next hok (List.getElem?_eq_some_iff.1 h2).1)
  ·exact ⟨N, hw.all hok hi⟩
theorem ways_exist {t : Lts} {st : DNet} (hv : Valid t) (hok : DOk t st) : ∃ N, WaysAll t st N := ways_from hv hok _ [[]] 0 (Nat.le_refl _) (WaySt.start hv hok)
theorem way_exist {t : Lts} {st : DNet} (hv : Valid t) (hok : DOk t st) {s : Int} (h0 : 0 ≤ s) (hs : s < st.rows.length) : ∃ xs, WayTo t st s xs ∧ xs.length ≤ 40 := by
 obtain ⟨N, hN⟩ := ways_exist hv hok
 have hNs : s.toNat < N.length := by rw [hN.1]; omega
 have hu : N[s.toNat]? = some N[s.toNat] := List.getElem?_eq_getElem hNs
 refine ⟨_, ⟨N[s.toNat], ?_, rfl⟩, hN.few hok.2 hu⟩
 have := hN.least (G := fun z => z = s) hu (by omega) fun k hk e => by omega
 exact this
/-- What firstTrace finds for a state of the deterministic system. -/
theorem way_found {t : Lts} {st : DNet} (hv : Valid t) (hok : DOk t st) {s : Int} (h0 : 0 ≤ s) (hs : s < st.rows.length) {r : Bool} {xs : List ByteArray} (h : FirstIs (dSys t st) (dSys t st) (bothL (dSys t st) (dSys t st)) (fun p => p.1 = s) r xs) : WayTo t st s xs ∧ xs.length ≤ 40 := by
 obtain ⟨ys, ⟨v, hv1, rfl⟩, h2⟩ := way_exist hv hok h0 hs
 have hL : bothL (dSys t st) (dSys t st) = t.labels := bothL_self hv.labels
 rw [hL] at h
 rcases h.2 with ⟨hn, -, -⟩ | ⟨u, hl, -, rfl⟩
 ·exact (hv1.some hn).elim
 ·have := hv1.unique hl
  subst this
  exact ⟨⟨v, hv1, rfl⟩, h2⟩

end Go.Proofs.YtkbgncenjfebdaaGreatDoor

namespace Go.Proofs.YtkbgncenjfebdaaGreatDoor
open Go Go.RowKit

theorem cov_labsI {t : Lts} {st : DNet} {e : Edge} {lb : Nat} (h : (lb : Int) = e.lab) (hl : lb < t.labels.length) : labAt (dSys t st) e = t.labels[lb] := by
 unfold labAt
 show t.labels.getD e.lab.toNat _ = _
 rw [List.getD_eq_getElem?_getD, show e.lab.toNat = lb from by omega, List.getElem?_eq_getElem hl]
 rfl
/-- How SuspensionAutomaton ends. -/
theorem sa_cases3 {t : Lts} {ins : List ByteArray} {w w' : World} {e : Ending} (h : RetSa t ins w e w') : Below w.heap.size w w' ∧ ((∃ la lc ea ec va vc code, (code = 1 ∨ code = 5) ∧ e = .returned (.tuple #[.agg #[.int .i64 0, .int .i64 0, .slice la 0 lc, .slice ea 0 ec], .slice va 0 vc, .int .i64 code]) ∧ ((¬ IfOk t ins ∧ code = 1) ∨ (IfOk t ins ∧ (¬ Valid (susT t ins) ∨ (Valid (susT t ins) ∧ DFull (susT t ins))) ∧ code = 5)))
  ∨ (IfOk t ins ∧ Valid (susT t ins) ∧ ∃ st la lc ea ec va vc n, DOk (susT t ins) st ∧ e = .returned (.tuple #[.agg #[.int .i64 (dSys (susT t ins) st).states, .int .i64 0, .slice la (susT t ins).labels.length lc, .slice ea st.edges.length ec], .slice va n vc, .int .i64 0])
   ∧ OwnLts w.heap.size w' (.slice la (susT t ins).labels.length lc) (.slice ea st.edges.length ec) (dSys (susT t ins) st))) := by
 obtain ⟨hb, d, xss, code, lv, ev, v, vs, rfl, hsa, hol, hiv⟩ := h
 refine ⟨hb, ?_⟩
 obtain ⟨la, lc, rfl, -, -⟩ := owns_slice hol.1
 obtain ⟨ea, ec, rfl, -, -⟩ := owns_slice hol.2
 have hvl := hiv.1
 obtain ⟨va, vc, rfl, -, -⟩ := owns_slice hiv.2.1
 rcases hsa with ⟨h1, rfl, rfl, rfl⟩ | ⟨h0, h1, rfl, rfl, rfl⟩ | ⟨h0, h1, ⟨h2, -⟩ | ⟨-, h2, rfl, rfl, rfl⟩ | ⟨-, st, h2, rfl, rfl, rfl⟩⟩
 ·exact .inl ⟨la, lc, ea, ec, va, vc, 1, .inl rfl, by rw [hvl]; rfl, .inl ⟨h1, rfl⟩⟩
 ·exact .inl ⟨la, lc, ea, ec, va, vc, 5, .inr rfl, by rw [hvl]; rfl, .inr ⟨h0, .inl h1, rfl⟩⟩
 ·exact absurd h1 h2
 ·exact .inl ⟨la, lc, ea, ec, va, vc, 5, .inr rfl, by rw [hvl]; rfl, .inr ⟨h0, .inr ⟨h1, h2⟩, rfl⟩⟩
 ·exact .inr ⟨h0, h1, st, la, lc, ea, ec, va, vc, _, h2, rfl, hol⟩

theorem cov1_any (eb : Nat) (s p q : Int) (w : World) (h : w.cell? ⟨eb, 0, none⟩ = some (.int .i64 s)) : Calls Tryz.prog 70 #[.int .i64 p, .int .i64 q, .pointer (some ⟨eb, 0, none⟩)] w fun e w' => ∃ r : Bool, e = .returned (.bool r) ∧ (r = true ↔ p = s) ∧ Below w.heap.size w w' := by
 go_enter Tryz.func70, Tryz.ntmps70
 go_wp2
 go_ret
 exact ⟨_, rfl, by simp, Below.refl _ _⟩

set_option maxRecDepth 100000 in
set_option maxHeartbeats 8000000 in
theorem implCoveringTests_any (lo : Nat) (t : Lts) (lv ev v : Value) (ins : List ByteArray) (w : World) (hsh : Short20 t.labels) (hsi : Short20 ins) (hl : SliceK 1 encS lo w lv t.labels) (he : SliceK 3 encE lo w ev t.edges) (hi : SliceK 1 encS lo w v ins) (g : Glob w) :
  Calls Tryz.prog 32 #[.agg #[.int .i64 t.states, .int .i64 t.initial, lv, ev], v] w (RetCv t ins w) := by
 obtain ⟨wA, hwA⟩ : ∃ wA, wA = w.alloc (.cells #[.int .i64 t.states, .int .i64 t.initial, lv, ev] 30) := ⟨_, rfl⟩
 have hbA : Below w.heap.size w wA := by rw [hwA]; exact (Below.refl _ _).alloc (Nat.le_refl _) _
 have HSA := Lib.hid (implSuspensionAutomaton_any lo t lv ev v ins wA hsh hsi (hl.below hbA) (he.below hbA) (hi.below hbA) (g.below hbA))
 have HBA := Lib.hid hbA
 have HWA := Lib.hid hwA
 have hsW : w.heap.size ≤ wA.heap.size := hbA.size
 obtain ⟨i1, hi1, hz10, hz11, hz12⟩ := info_parts info_strR
 obtain ⟨i2, hi2, hz20, hz21, hz22⟩ := info_parts info_strsR
 clear hsh hsi hl he hi g hwA hbA
 go_enter Tryz.func32, Tryz.ntmps32
 go_wp2_with fail
 rw [← HWA.out]
 refine Calls.mono HSA.out ?_
 rintro e w1 hret
 obtain ⟨hb1, ⟨la, lc, ea, ec, va, vc, code, hcode, rfl, hno⟩ | ⟨hif, hv, st, la, lc, ea, ec, va, vc, nv, hok, rfl, hol, hoe⟩⟩ := sa_cases3 hret
 ·have HNO := Lib.hid hno
  have HB4 := Lib.hid (hb1.trans (((Below.refl w1.heap.size w1).alloc (Nat.le_refl _) (.cells #[.int .i64 0, .int .i64 0, .slice la 0 lc, .slice ea 0 ec] 30)).mono hb1.size))
  clear hret hno hb1 HSA
  rcases hcode with rfl | rfl
  ·go_wp2
   go_ret2
   refine cv_none (HBA.out.trans (HB4.out.mono hsW)) ?_
   rcases HNO.out with ⟨h, -⟩ | ⟨h, h2, h3⟩
   ·exact .inl ⟨h, rfl, rfl⟩
   ·cases h3
  ·go_wp2
   go_ret2
   refine cv_none (HBA.out.trans (HB4.out.mono hsW)) ?_
   rcases HNO.out with ⟨h, h3⟩ | ⟨h, h2, -⟩
   ·cases h3
   ·exact .inr (.inl ⟨h, h2, rfl, rfl⟩)
 ·obtain ⟨f0, hf0⟩ : ∃ f0, f0 = (dSys (susT t ins) st).states := ⟨_, rfl⟩
  obtain ⟨LN, hLN⟩ : ∃ LN, LN = (susT t ins).labels.length := ⟨_, rfl⟩
  obtain ⟨EN, hEN⟩ : ∃ EN, EN = st.edges.length := ⟨_, rfl⟩
  have hlp := hv.labels.pos
  have hEN300 : EN ≤ 300 := by rw [hEN]; exact hok.2.2
  rw [← hLN] at hol hlp
  rw [← hEN] at hoe
  rw [← hf0, ← hLN, ← hEN]
  have hol0 : w1.ownsRow wA.heap.size 9 1 (.slice la LN lc) LN ((susT t ins).labels.map .string) := by
   have h : w1.ownsRow wA.heap.size 9 1 (.slice la LN lc) (susT t ins).labels.length ((susT t ins).labels.map .string) := hol
   rw [← hLN] at h
   exact h
  have hoe0 : w1.ownsRow wA.heap.size 93 3 (.slice ea EN ec) EN (st.edges.flatMap encE) := by
   have h : w1.ownsRow wA.heap.size 93 3 (.slice ea EN ec) st.edges.length (st.edges.flatMap encE) := hoe
   rw [← hEN] at h
   exact h
  obtain ⟨bl, cl', hbl', hblB, hblw⟩ := own_some hol0 hlp
  simp only [Value.slice.injEq, true_and] at hbl'
  obtain ⟨rfl, rfl⟩ := hbl'
  obtain ⟨W3, hW3⟩ : ∃ W3, W3 = w1.alloc (.cells #[.int .i64 f0, .int .i64 0, .slice (some ⟨bl, 0, none⟩) LN lc, .slice ea EN ec] 30) := ⟨_, rfl⟩
  obtain ⟨p3, hp3⟩ : ∃ p3, p3 = w1.heap.size := ⟨_, rfl⟩
  have hb4 : Below w1.heap.size w1 W3 := by rw [hW3]; exact (Below.refl _ _).alloc (Nat.le_refl _) _
  have hX : Blk W3 p3 [.int .i64 f0, .int .i64 0, .slice (some ⟨bl, 0, none⟩) LN lc, .slice ea EN ec] 30 := by rw [hW3, hp3]; exact Blk.new _ _ _
  have hol3 := owns_below hol0 hb4
  have hin3 : LtsIn wA.heap.size W3 (.slice (some ⟨bl, 0, none⟩) LN lc) (.slice ea EN ec) (dSys (susT t ins) st) :=
   ⟨SliceK.of_owns (enc := encS) (e := 9) encS_len hLN (by rw [flat_encS]; exact hol3), SliceK.of_owns (enc := encE) (e := 93) encE_len hEN (owns_below hoe0 hb4)⟩
  have HV := Lib.hid hv
  have HIF := Lib.hid hif
  have HOK := Lib.hid hok
  have HG := Lib.hid (dok_good hv hok)
  have HB3 := Lib.hid (hb1.trans (hb4.mono hb1.size))
  have HX := Lib.hid hX
  have HOL := Lib.hid hol3
  have HIN := Lib.hid hin3
  have HLN := Lib.hid hLN
  have HEN := Lib.hid hEN
  have HF0 := Lib.hid hf0
  have HW3 := Lib.hid hW3
  have HP3 := Lib.hid hp3
  have hblw3 : bl < W3.heap.size := Nat.lt_of_lt_of_le hblw hb4.size
  have hpl3 := hX.lt
  have x3 := hX.cell 3 rfl
  have x30 := Lib.hid x3
  rw [hW3] at x3
  obtain ⟨B, hB⟩ : ∃ B, B = W3.heap.size := ⟨_, rfl⟩
  have HBB := Lib.hid hB
  have hBW : B ≤ W3.heap.size := by omega
  have hplB : p3 < B := by omega
  have hblB2 : bl < B := by omega
  clear hret hv hif hok hb1 hb4 hol hoe hol0 hoe0 hLN hEN hf0 hX hol3 hin3 hp3 hblB hblw HSA hB
  rw [hW3] at hpl3
  clear hW3
  go_wp2
  rw [← HW3.out]
  try rw [← HP3.out]
  go_loopw [9, 27] (fun v9 v27 wr => ∃ (i : Nat) (vs : List Value) (ts : List (List ByteArray)), i ≤ EN ∧ v27 = .int .i64 i ∧ CovL (susT t ins) st i ts ∧ Below B W3 wr ∧ OwnStrss B wr v9 vs ts) (fun _ v27 _ => EN - (intOf v27).toNat)
  case atStart => exact ⟨0, [], [], Nat.zero_le _, rfl, CovL.zero _ _, (Below.refl _ _).mono hBW, OwnStrss.none _ _⟩
  case round =>
   clear x3 hpl3
   obtain ⟨i, vs, ts, hi, rfl, hcv, hbl, hot⟩ := hrel
   obtain ⟨wC, rfl⟩ : ∃ wC : World, wC = wr := ⟨_, rfl⟩
   have HCV := Lib.hid hcv
   have HBL := Lib.hid hbl
   have HOT2 := Lib.hid hot
   have hszC : B ≤ wC.heap.size := Nat.le_trans hBW hbl.size
   obtain ⟨oa, oc, rfl, -, -⟩ := owns_slice hot.out
   obtain ⟨M, hM⟩ : ∃ M, M = vs.length := ⟨_, rfl⟩
   have hM300 : M ≤ 300 := by rw [hM, hot.len, hcv.1]; omega
   rw [← hM] at HOT2 ⊢
   have HM := Lib.hid hM
   have hb3C : Below W3.heap.size W3 wC := by have h := hbl; rw [HBB.out] at h; exact h
   by_cases hlt : i < EN
   ·have hlt2 : i < st.edges.length := by rw [← HEN.out]; exact hlt
    have hge := HG.out.edges _ (List.getElem_mem hlt2)
    obtain ⟨a9, c9, e9, -, -, hrow⟩ := HIN.out.2
    simp only [Value.slice.injEq] at e9
    obtain ⟨rfl, -, rfl⟩ := e9
    obtain ⟨be, oe, rfl, -, hbe3, e1, e2, e3⟩ := hrow.edge (show i < (dSys (susT t ins) st).edges.length from hlt2)
    replace e1 := keeps hb3C hbe3 e1
    replace e2 := keeps hb3C hbe3 e2
    replace e3 := keeps hb3C hbe3 e3
    obtain ⟨x, hx⟩ : ∃ x, x = st.edges[i] := ⟨_, rfl⟩
    rw [show (dSys (susT t ins) st).edges[i] = x from hx.symm] at e1 e2 e3
    rw [← hx] at hge
    obtain ⟨⟨hs0, hs1⟩, ⟨hl0, hl1⟩, -⟩ := hge
    obtain ⟨lb, hlb⟩ : ∃ lb : Nat, (lb : Int) = x.lab := ⟨x.lab.toNat, by omega⟩
    have hlb2 : lb < (susT t ins).labels.length := by omega
    have hlbL : lb < LN := by rw [HLN.out]; exact hlb2
    rw [← hlb] at e2
    obtain ⟨l, hl⟩ : ∃ l, l = (susT t ins).labels[lb] := ⟨_, rfl⟩
    have HLB : Hid (labAt (dSys (susT t ins) st) x = l) := by unfold Hid; rw [cov_labsI hlb hlb2, hl]
    have hlc := HOL.out.cellAt lb (by omega)
    rw [List.getElem?_map, List.getElem?_eq_getElem hlb2, Option.map_some, ← hl] at hlc
    obtain ⟨xs, hxs⟩ : ∃ xs, xs = x.src := ⟨_, rfl⟩
    obtain ⟨xd, hxd⟩ : ∃ xd, xd = x.dst := ⟨_, rfl⟩
    rw [← hxs] at e1 hs0 hs1
    rw [← hxd] at e3
    have HS01 : Hid (0 ≤ xs ∧ xs < st.rows.length) := ⟨hs0, hs1⟩
    -- the edge's box
    obtain ⟨WE, hWE⟩ : ∃ WE, WE = wC.alloc (.cells #[.int .i64 xs, .int .i64 lb, .int .i64 xd] 93) := ⟨_, rfl⟩
    obtain ⟨eb, heb⟩ : ∃ eb, eb = wC.heap.size := ⟨_, rfl⟩
    have hbE : Below wC.heap.size wC WE := by rw [hWE]; exact (Below.refl _ _).alloc (Nat.le_refl _) _
    have hXE : Blk WE eb [.int .i64 xs, .int .i64 lb, .int .i64 xd] 93 := by rw [hWE, heb]; exact Blk.new wC _ _
    have hb3E : Below W3.heap.size W3 WE := hb3C.trans (hbE.mono hb3C.size)
    have hXWE := HX.out.below hb3E
    have hask : Asks 70 #[.pointer (some ⟨eb, 0, none⟩)] (dSys (susT t ins) st) (dSys (susT t ins) st) (fun p => p.1 = xs) WE := fun w' hb p q _ _ _ _ => cov1_any eb xs p q w' ((hXE.below hb).cell 0 rfl)
    have hin := (show LtsIn wA.heap.size WE (.slice (some ⟨bl, 0, none⟩) LN lc) (.slice (some ⟨be, oe, none⟩) EN ec) (dSys (susT t ins) st) from ⟨HIN.out.1.below hb3E, HIN.out.2.below hb3E⟩)
    have HFI := Lib.hid (firstTrace_any wA.heap.size (dSys (susT t ins) st) (dSys (susT t ins) st) _ _ _ _ 70 #[.pointer (some ⟨eb, 0, none⟩)] (fun p => p.1 = xs) WE (dSys_valid HV.out HOK.out) (dSys_valid HV.out HOK.out) (dSys_single HV.out HOK.out) (dSys_single HV.out HOK.out) rfl rfl hin hin (fun args w => by kernel_rfl) hask)
    rw [show (dSys (susT t ins) st).initial = 0 from rfl, ← HF0.out] at HFI
    have y0 := hXWE.cell 0 rfl
    have y1 := hXWE.cell 1 rfl
    have y2 := hXWE.cell 2 rfl
    have y3 := hXWE.cell 3 rfl
    have hyl := hXWE.lt
    rw [hWE] at y0 y1 y2 y3 hyl
    have HXX := Lib.hid hx
    have HXS := Lib.hid hxs
    have HXE := Lib.hid hXE
    have HBE := Lib.hid hbE
    have HB3E := Lib.hid hb3E
    have HLC := Lib.hid hlc
    have HWE := Lib.hid hWE
    have HEB := Lib.hid heb
    have HEBC : Hid (eb = wC.heap.size ∧ wC.heap.size < WE.heap.size) := ⟨heb, by rw [hWE]; simp⟩
    clear hcv hbl hot hM hb3C hrow hx hlb hl hlc hxs hxd hWE heb hbE hXE hb3E hXWE hask hin
    go_wp2_with fail
    rw [← HWE.out]
    try rw [← HEB.out]
    refine Calls.mono HFI.out ?_
    rintro e w7 ⟨hb7, r, tr, v7, rfl, hfi, hown⟩
    obtain ⟨hwt, htr40⟩ := way_found HV.out HOK.out HS01.out.1 HS01.out.2 hfi
    obtain ⟨ta, tc, rfl, -, -⟩ := owns_slice hown
    obtain ⟨TL, hTL⟩ : ∃ TL, TL = tr.length := ⟨_, rfl⟩
    have hTL40 : TL ≤ 40 := by omega
    have HWT := Lib.hid hwt
    have HTL := Lib.hid hTL
    have HT40 : Hid (tr.length ≤ 40) := htr40
    have hb37 : Below W3.heap.size W3 w7 := HB3E.out.trans (hb7.mono HB3E.out.size)
    have hXE7 := HXE.out.below hb7
    have hX7 := HX.out.below hb37
    have hbC7 : Below wC.heap.size wC w7 := HBE.out.trans (hb7.mono HBE.out.size)
    have heb7 := hXE7.lt
    have hp37 := hX7.lt
    have hbl7 : bl < w7.heap.size := Nat.lt_of_lt_of_le hblw3 hb37.size
    have HSW : Hid (∀ w', Below w7.heap.size w7 w' → w'.cell? ⟨eb, 1, none⟩ = some (.int .i64 lb) ∧ w'.cell? ⟨p3, 2, none⟩ = some (.slice (some ⟨bl, 0, none⟩) LN lc) ∧ w'.cell? ⟨bl, lb, none⟩ = some (.string l)) := fun w' hb =>
     ⟨keeps hb heb7 (hXE7.cell 1 rfl), keeps hb hp37 (hX7.cell 2 rfl), keeps hb hbl7 (keeps hb37 hblw3 HLC.out)⟩
    have hD : Below w7.heap.size w7 w7.drew := (Below.refl _ _).drew
    have hDA : ∀ o, Below w7.heap.size w7 (w7.drew.alloc o) := fun o => hD.alloc (by simp) _
    have HD := Lib.hid hD
    have HDA := Lib.hid hDA
    have HCL : Hid (∀ w', Below w7.heap.size w7 w' → Calls Tryz.prog 71 #[.slice ta TL tc] w' fun e w'' => ∃ v', e = .returned v' ∧ w''.ownsRow w7.heap.size 9 1 v' TL (txts tr) ∧ Below w'.heap.size w' w'') := fun w' hb => by
     have h1 : SliceK 1 encS WE.heap.size w' (.slice ta TL tc) tr := by rw [hTL]; exact (OwnStrs.below hown hb).at
     refine (CloneS_own _ _ tr w' h1 (by omega)).mono ?_
     rintro e w'' ⟨v', rfl, ho, hb2⟩
     refine ⟨v', rfl, ?_, hb2⟩
     rw [hTL]
     exact own_lower ho hb.size
    have HOT7 := Lib.hid (HOT2.out.below hbC7)
    have HXE7 := Lib.hid hXE7
    have HX7 := Lib.hid hX7
    have HOL7 : Hid (w7.ownsRow wA.heap.size 9 1 (.slice (some ⟨bl, 0, none⟩) LN lc) LN ((susT t ins).labels.map .string)) := owns_below HOL.out hb37
    have HSZ : Hid (B ≤ w7.heap.size ∧ eb < w7.heap.size ∧ p3 < w7.heap.size ∧ bl < w7.heap.size ∧ wC.heap.size ≤ w7.heap.size) := ⟨Nat.le_trans hszC hbC7.size, heb7, hp37, hbl7, hbC7.size⟩
    have HBC7 := Lib.hid (HBL.out.trans (hbC7.mono hszC))
    rw [← hTL]
    clear hb7 hfi hown hwt htr40 hTL hb37 hXE7 hX7 hbC7 heb7 hp37 hbl7 hD hDA y0 y1 y2 y3 hyl HFI
    go_wp2
    go_region_held3 (fun w' => w'.cell? ⟨eb, 1, none⟩ = some (.int .i64 lb) ∧ w'.cell? ⟨p3, 2, none⟩ = some (.slice (some ⟨bl, 0, none⟩) LN lc) ∧ w'.cell? ⟨bl, lb, none⟩ = some (.string l))
     (first
      | exact HSW.out _ HD.out
      | exact HSW.out _ (HDA.out _)
      | exact HSW.out _ hq9
      | exact HSW.out _ (hq9.alloc hs9 _)
      | exact HSW.out _ hq5
      | exact HSW.out _ (hq5.alloc hs5 _)
      | exact hS6
      | go_keep)
     (first
      | (go_at_call 71; refine Calls.mono (HCL.out _ (by first | exact HD.out | exact HDA.out _)) ?_; rintro e w9 ⟨cv, rfl, hoC, hbC⟩; have hq9 : Below w7.heap.size w7 w9 := (by first | exact HD.out.trans (hbC.mono (by simp)) | exact (HDA.out _).trans (hbC.mono (by simp))); have hs9 := hq9.size; have HOC := Lib.hid hoC)
      | (refine step_append_lies _ (by rfl) _ _ 22 (by rfl) w7.heap.size 9 i1 _ 1 16 Tryz.underlying22 hi1 hz10 hz11 hz12 rfl (by omega) cv TL (txts tr) (by rfl) (HOC.out.alloc _) ⟨w9.heap.size, 0, none⟩ 1 1 [.string l] (by rfl) (by rfl) (World.news_of_block (cs := #[.string l]) (t := 9) (fr := (0, 0)) (heap_alloc_new _ _)) (by simp [Value.oneCell']) (by omega) (by simp [maxLen]; omega) (by omega) (by simp; omega) (w9.heap.size + 1) (by simp) ?_; intro gg1 cap1 w5 hown5 hgrow5 hat5 hlt5; have hq5 : Below w7.heap.size w7 w5 := ((hq9.alloc hs9 _).grown hgrow5 (by simp; omega) (fun b e => (HOC.out.lt b e).1)); have hs5 := hq5.size; have HO5 := Lib.hid hown5)
      | (refine step_append_lies _ (by rfl) _ _ 22 (by rfl) w7.heap.size 9 i1 _ 1 16 Tryz.underlying22 hi1 hz10 hz11 hz12 rfl (by omega) cv TL (txts tr) (by rfl) HOC.out ⟨w7.heap.size, 0, none⟩ 1 1 [.string l] (by rfl) (by rfl) (World.news_of_block (cs := #[.string l]) (t := 9) (fr := (0, 0)) ((hbC.block w7.heap.size (by simp)).trans (heap_alloc_new w7.drew _))) (by simp [Value.oneCell']) (by omega) (by simp [maxLen]; omega) (by omega) (by omega) w9.heap.size (by rfl) ?_; intro gg1 cap1 w5 hown5 hgrow5 hat5 hlt5; have hq5 : Below w7.heap.size w7 w5 := (hq9.grown hgrow5 hs9 (fun b e => (HOC.out.lt b e).1)); have hs5 := hq5.size; have HO5 := Lib.hid hown5)
      | (refine step_append_lies _ (by rfl) _ _ 42 (by rfl) B 22 i2 _ 1 24 Tryz.underlying42 hi2 hz20 hz21 hz22 rfl (by omega) (.slice oa M oc) M vs (by rfl) (by have h := (HOT7.out.below (hq5.alloc hs5 (.cells #[.slice (some ⟨gg1, 0, none⟩) (TL + 1) cap1] 22))).out; rw [← HM.out] at h; exact h) ⟨w5.heap.size, 0, none⟩ 1 1 [.slice (some ⟨gg1, 0, none⟩) (TL + 1) cap1] (by rfl) (by rfl) (World.news_of_block (cs := #[.slice (some ⟨gg1, 0, none⟩) (TL + 1) cap1]) (t := 22) (fr := (0, 0)) (heap_alloc_new _ _)) (by simp [Value.oneCell']) (by omega) (by simp [maxLen]; omega) (by omega) (by have := HSZ.out; simp; omega) (w5.heap.size + 1) (by simp) ?_; intro gg2 cap2 w6 hown6 hgrow6 hat6 hlt6; have hqA : Below w7.heap.size w7 (w5.alloc (.cells #[.slice (some ⟨gg1, 0, none⟩) (TL + 1) cap1] 22)) := hq5.alloc hs5 _; have HQA := Lib.hid hqA; have hAl := (HOT7.out.below hqA).out; rw [← HM.out] at hAl; have ne1 := blk_own_ne' (HXE7.out.below hqA) hAl (by decide); have ne3 := blk_own_ne' (HX7.out.below hqA) hAl (by decide); have ne4 : some bl ≠ (Value.slice oa M oc).ownBlock := (own_types (owns_below HOL7.out hqA) hAl (by decide)).elim (fun h => by simp [Value.ownBlock] at h) (fun h => h); have hsA := HSW.out _ hqA; have hz9 : w7.heap.size ≤ w5.heap.size := hs5; have hS6 : w6.cell? ⟨eb, 1, none⟩ = some (.int .i64 lb) ∧ w6.cell? ⟨p3, 2, none⟩ = some (.slice (some ⟨bl, 0, none⟩) LN lc) ∧ w6.cell? ⟨bl, lb, none⟩ = some (.string l) := ⟨(hgrow6.cell_far ⟨eb, 1, none⟩ (by have := HSZ.out; simp; omega) ne1).trans hsA.1, (hgrow6.cell_far ⟨p3, 2, none⟩ (by have := HSZ.out; simp; omega) ne3).trans hsA.2.1, (hgrow6.cell_far ⟨bl, lb, none⟩ (by have := HSZ.out; simp; omega) ne4).trans hsA.2.2⟩)
      | fail)
    all_goals (
     have HBO : Hid (Below B W3 w6) := (HBC7.out.trans (HQA.out.mono HSZ.out.1)).grown hgrow6 (by have := HSZ.out; have := HQA.out.size; omega) (fun b e => (hAl.lt b e).1)
     have HPU : Hid (OwnStrss B w6 (.slice (some ⟨gg2, 0, none⟩) (M + 1) cap2) (vs ++ [.slice (some ⟨gg1, 0, none⟩) (TL + 1) cap1]) (ts ++ [tr ++ [l]])) := by
      refine OwnStrss.push (GE := w7.heap.size) HOT7.out (Nat.le_refl _) HSZ.out.1 HQA.out ?_ hgrow6 (by rw [← HM.out]; exact hown6)
      have h := HO5.out.alloc (.cells #[.slice (some ⟨gg1, 0, none⟩) (TL + 1) cap1] 22)
      rw [List.length_append, List.length_singleton, ← HTL.out]
      simpa [txts] using h
     have HCN : Hid (CovL (susT t ins) st (i + 1) (ts ++ [tr ++ [l]])) := by
      have h := HCV.out.push hlt2 (by rw [← HXX.out, ← HXS.out]; exact HWT.out) HT40.out
      rw [← HXX.out, HLB.out] at h
      exact h
     clear hoC hbC hq9 hs9 hown5 hgrow5 hat5 hlt5 hq5 hs5 hown6 hgrow6 hat6 hlt6 hqA hAl ne1 ne3 ne4 hsA hz9 hS6
     go_wp2
     go_roundw
     case rel => exact ⟨i + 1, _, _, by omega, by go_num, HCN.out, HBO.out, HPU.out⟩
     case measure => simp [intOf]; omega)
   ·have hiN : i = EN := by omega
    have HCE : Hid (CovL (susT t ins) st st.edges.length ts) := by unfold Hid; rw [← HEN.out, ← hiN]; exact HCV.out
    have hne : ∀ y ∈ ts, y ≠ [] ∧ y.length ≤ 1000 := fun y hy => by
     obtain ⟨k, hk, rfl⟩ := List.mem_iff_getElem.1 hy
     have hk2 : k < st.edges.length := by have := HCE.out.1; omega
     obtain ⟨ys, -, h40, h3⟩ := HCE.out.2 k hk2 hk2
     rw [List.getElem?_eq_getElem hk] at h3
     rw [Option.some.injEq] at h3
     rw [h3]
     exact ⟨by simp, by rw [List.length_append, List.length_singleton]; omega⟩
    have HRE := Lib.hid (ReduceTests_any B (.slice oa M oc) ts wC HOT2.out.at (by have := HCE.out.1; have := HEN.out; omega) hne)
    have HBC : Hid (Below w.heap.size w wC) := HBA.out.trans ((HB3.out.trans (hb3C.mono HB3.out.size)).mono hsW)
    clear hcv hbl hot hM hb3C hne hiN
    go_wp2_with fail
    refine Calls.mono HRE.out ?_
    rintro e w9 ⟨v9, vs9, rfl, hb9, ho9⟩
    have HB9 := Lib.hid (HBC.out.trans (hb9.mono HBC.out.size))
    have HO9 := Lib.hid (ho9.lower HBC.out.size)
    obtain ⟨a10, c10, rfl, -, -⟩ := owns_slice ho9.out
    clear hb9 ho9 HRE
    go_wp2
    go_ret2
    exact ⟨HB9.out, _, 0, _, vs9, rfl, .inr (.inr ⟨HIF.out, HV.out, st, ts, HOK.out, HCE.out, rfl, rfl⟩), HO9.out⟩

end Go.Proofs.YtkbgncenjfebdaaGreatDoor

namespace Go.Proofs.YtkbgncenjfebdaaGreatDoor
open Go Go.RowKit

theorem szS_fit (ss : List ByteArray) (left : Int) (h0 : 0 ≤ left) (h : 0 ≤ szS ss left) : ∀ s ∈ ss, (s.size : Int) ≤ left := by
 induction ss generalizing left with
 | nil => intro s hs; cases hs
 | cons a r ih =>
  unfold szS at h
  split at h
  ·omega
  ·next hl =>
   intro s hs
   rcases List.mem_cons.1 hs with rfl | hs
   ·omega
   ·have := ih (left - a.size) (by omega) h s hs
    omega
theorem szL_fit {t : Lts} {left : Int} (_h0 : 0 ≤ left) (h : 0 ≤ szL t left) : (t.labels.length : Int) ≤ left ∧ (t.edges.length : Int) ≤ left ∧ (∀ s ∈ t.labels, (s.size : Int) ≤ left) ∧ szL t left ≤ left := by
 unfold szL at h ⊢
 split at h
 ·omega
 ·next h1 =>
  rw [if_neg h1]
  split at h
  ·omega
  ·next h2 =>
   rw [if_neg h2]
   have h3 : ¬ left - t.labels.length < 0 := by
    intro e
    rw [szSS_neg e] at h1
    omega
   rw [szSS_pos h3] at h1 h2 h ⊢
   have h4 := szS_lt t.labels (left - t.labels.length) (by omega)
   have h5 : ¬ szS t.labels (left - t.labels.length) - t.edges.length < 0 := by
    intro e
    rw [szN_neg e] at h2
    omega
   rw [szN_pos h5] at h ⊢
   refine ⟨by omega, by omega, fun s hs => ?_, by omega⟩
   have := szS_fit t.labels (left - t.labels.length) (by omega) (by omega) s hs
   omega

end Go.Proofs.YtkbgncenjfebdaaGreatDoor

namespace Go.Proofs.YtkbgncenjfebdaaGreatDoor
open Go Go.RowKit

theorem szSS_fit {ss : List ByteArray} {left : Int} (h1 : left ≤ 1048576) (h : 0 ≤ szSS ss left) : (ss.length : Int) ≤ 1048576 ∧ ∀ s ∈ ss, (s.size : Int) ≤ 1048576 := by
 have h3 : ¬ left - ss.length < 0 := by
  intro e
  rw [szSS_neg e] at h
  omega
 rw [szSS_pos h3] at h
 refine ⟨by omega, fun s hs => ?_⟩
 have := szS_fit ss (left - ss.length) (by omega) h s hs
 omega
theorem turns_one {w w' : World} {b : Nat} (h : w.grownBy w' (some b)) : Turns b (b + 1) w w' := ⟨h.os, h.tape, h.output, h.size, fun k hk hne => h.block k hk (by intro e; simp at e; omega)⟩

end Go.Proofs.YtkbgncenjfebdaaGreatDoor

namespace Go.Proofs.YtkbgncenjfebdaaGreatDoor
open Go Go.RowKit

set_option maxRecDepth 100000 in
set_option maxHeartbeats 400000 in
theorem markStringS_any (lo hi b n cap : Nat) (cs : List Value) (k : Int) (w : World) (h1 : 0 ≤ k) (h2 : k + n ≤ 1000000000) (hb1 : lo ≤ b) (hb2 : b < hi) (hv : w.ownsRow lo 9 1 (.slice (some ⟨b, 0, none⟩) n cap) n cs) :
  Calls Tryz.prog 19 #[.slice (some ⟨b, 0, none⟩) n cap, .int .i64 k] w (MarkedIn lo hi w (k + n)) := by
 have HV := Lib.hid hv
 clear hv
 go_enter Tryz.func19, Tryz.ntmps19
 go_wp2
 go_loopw [1, 5] (fun q i wr => ∃ (j : Nat) (cs : List Value), j ≤ n ∧ q = .int .i64 (k + j) ∧ i = .int .i64 j ∧ Turns lo hi w wr ∧ wr.ownsRow lo 9 1 (.slice (some ⟨b, 0, none⟩) n cap) n cs) (fun _ i _ => n - (intOf i).toNat)
 case atStart => exact ⟨0, cs, Nat.zero_le _, by simp, rfl, turns_refl _ _ _, HV.out⟩
 case round =>
  obtain ⟨j, cs, hj, rfl, rfl, hg, ho⟩ := hrel
  have HG := Lib.hid hg
  have HO := Lib.hid ho
  clear hg ho HV
  by_cases hlt : j < n
  ·go_wp2_with fail
   refine (markText_any _ _ (by omega) (by omega)).mono ?_
   rintro e w1 ⟨s, rfl, hb⟩
   have ho1 := owns_below HO.out hb
   obtain ⟨xc1, c1⟩ := own_cell ho1 (j) (by omega)
   have f1 := ho1.frozenAt j
   have HO2 := Lib.hid (ho1.stored j (.string s)).1
   have HB := Lib.hid hb
   clear ho1 hb
   go_wp2
   go_roundw
   case rel => exact ⟨j + 1, _, by omega, by go_num, by go_num, turns_trans (turns_trans HG.out (turns_below HB.out)) (turns_set _ _ _ hb1 hb2), HO2.out⟩
   case measure => simp [intOf]; omega
  ·go_wp2
   go_ret
   obtain rfl : j = n := by omega
   exact ⟨rfl, HG.out⟩

set_option maxRecDepth 100000 in
set_option maxHeartbeats 1000000 in
theorem markEdgeS_any (lo hi b n cap : Nat) (cs : List Value) (k : Int) (w : World) (h1 : 0 ≤ k) (h2 : k + 3 * n ≤ 1000000000) (hb1 : lo ≤ b) (hb2 : b < hi) (hv : w.ownsRow lo 93 3 (.slice (some ⟨b, 0, none⟩) n cap) n cs) :
  Calls Tryz.prog 51 #[.slice (some ⟨b, 0, none⟩) n cap, .int .i64 k] w (MarkedIn lo hi w (k + 3 * n)) := by
 have HV := Lib.hid hv
 clear hv
 go_enter Tryz.func51, Tryz.ntmps51
 go_wp2
 go_loopw [1, 5] (fun q i wr => ∃ (j : Nat) (cs : List Value), j ≤ n ∧ q = .int .i64 (k + 3 * j) ∧ i = .int .i64 j ∧ Turns lo hi w wr ∧ wr.ownsRow lo 93 3 (.slice (some ⟨b, 0, none⟩) n cap) n cs) (fun _ i _ => n - (intOf i).toNat)
 case atStart => exact ⟨0, cs, Nat.zero_le _, by simp, rfl, turns_refl _ _ _, HV.out⟩
 case round =>
  obtain ⟨j, cs, hj, rfl, rfl, hg, ho⟩ := hrel
  have HG := Lib.hid hg
  clear hg HV
  by_cases hlt : j < n
  ·obtain ⟨xc0, c0⟩ := own_cell ho (j * 3) (by omega)
   have s0 := (ho.stored (j * 3) (.int .i64 (k + 3 * j))).1
   obtain ⟨xc1, c1⟩ := own_cell s0 (j * 3 + 1) (by omega)
   have s1 := (s0.stored (j * 3 + 1) (.int .i64 (k + 3 * j + 1))).1
   obtain ⟨xc2, c2⟩ := own_cell s1 (j * 3 + 2) (by omega)
   have HO := Lib.hid (s1.stored (j * 3 + 2) (.int .i64 (k + 3 * j + 1 + 1))).1
   obtain ⟨xg1, g1⟩ := own_cell ho (j * 3 + 1) (by omega)
   obtain ⟨xg2, g2⟩ := own_cell ho (j * 3 + 2) (by omega)
   have f0 := ho.frozenAt (j * 3)
   have f1 := ho.frozenAt (j * 3 + 1)
   have f2 := ho.frozenAt (j * 3 + 2)
   clear ho s0 s1
   go_wp2
   go_roundw
   case rel => exact ⟨j + 1, _, by omega, by go_num, by go_num, turns_trans (turns_trans (turns_trans HG.out (turns_set _ _ _ hb1 hb2)) (turns_set _ _ _ hb1 hb2)) (turns_set _ _ _ hb1 hb2), HO.out⟩
   case measure => simp [intOf]; omega
  ·go_wp2
   go_ret
   obtain rfl : j = n := by omega
   exact ⟨rfl, HG.out⟩

set_option maxHeartbeats 1000000 in
theorem markLts_any (lo hi b1 b2 n1 n2 : Nat) (x y : Int) (cs1 cs2 : List Value) (k : Int) (w : World) (h1 : 0 ≤ k) (h2 : k + n1 + 3 * n2 ≤ 1000000000) (hb1 : lo ≤ b1) (hb2 : b1 < hi) (hb3 : lo ≤ b2) (hb4 : b2 < hi) (hhi : hi ≤ w.heap.size) (hne : b1 ≠ b2)
  (hv1 : w.ownsRow lo 9 1 (.slice (some ⟨b1, 0, none⟩) n1 n1) n1 cs1) (hv2 : w.ownsRow lo 93 3 (.slice (some ⟨b2, 0, none⟩) n2 n2) n2 cs2) :
  Calls Tryz.prog 18 #[.agg #[.int .i64 x, .int .i64 y, .slice (some ⟨b1, 0, none⟩) n1 n1, .slice (some ⟨b2, 0, none⟩) n2 n2], .int .i64 k] w (MarkedIn lo hi w (k + n1 + 3 * n2)) := by
 have V1 := Lib.hid hv1
 have V2 := Lib.hid hv2
 have HN := Lib.hid hne
 clear hv1 hv2 hne
 go_enter Tryz.func18, Tryz.ntmps18
 go_wp2_with fail
 refine (markStringS_any b1 (b1 + 1) b1 n1 n1 cs1 _ _ h1 (by omega) (Nat.le_refl _) (Nat.lt_succ_self _) ?_).mono ?_
 ·have := owns_below V1.out ((Below.refl _ w).alloc (Nat.le_refl _) (.cells #[.int .i64 x, .int .i64 y, .slice (some ⟨b1, 0, none⟩) n1 n1, .slice (some ⟨b2, 0, none⟩) n2 n2] 30))
  exact own_base this
 rintro e w1 ⟨rfl, ht1⟩
 have A := Lib.hid ((Blk.new w [.int .i64 x, .int .i64 y, .slice (some ⟨b1, 0, none⟩) n1 n1, .slice (some ⟨b2, 0, none⟩) n2 n2] 30).turns ht1 (by omega))
 have c3 := A.out.cell 3 rfl
 have T1 : Hid (Turns lo hi w w1) := turns_trans (turns_below ((Below.refl _ w).alloc (Nat.le_refl _) _)) (turns_wide ht1 (by omega) (by omega))
 have W2 := Lib.hid (owns_turns (owns_below V2.out ((Below.refl _ w).alloc (Nat.le_refl _) _)) ht1 (fun b e => by simp [Value.ownBlock] at e; have := HN.out; omega))
 clear ht1
 go_wp2_with fail
 refine (markEdgeS_any lo hi b2 n2 n2 cs2 _ _ (by omega) (by omega) hb3 hb4 W2.out).mono ?_
 rintro e w2 ⟨rfl, ht2⟩
 have T2 := Lib.hid ht2
 clear ht2
 go_wp2_with fail
 go_ret
 exact ⟨rfl, turns_trans T1.out T2.out⟩

end Go.Proofs.YtkbgncenjfebdaaGreatDoor

namespace Go.Proofs.YtkbgncenjfebdaaGreatDoor
open Go Go.RowKit

theorem heldStrs_is (lo : Nat) (v : Value) (xs : List ByteArray) (k : Int) (w : World) (h1 : 0 ≤ k) (h2 : k + (xs.length : Int) ≤ 1000000000) (hv : OwnStrs lo w v (mrkS k xs.length)) :
  Calls Tryz.prog 30 #[v, .int .i64 k] w fun e w' => e = .returned (.int .i64 (k + (xs.length : Int))) ∧ Below w.heap.size w w' :=
 heldStringS_is v lo xs.length k w h1 h2 hv.at


end Go.Proofs.YtkbgncenjfebdaaGreatDoor
