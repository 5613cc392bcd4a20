/-
  The library's slices.DeleteFunc at a row of numbers of the call's own, with a function that may lay blocks of its own.
  The library's slices.IndexFunc and slices.ContainsFunc at a slice of texts, with a function that may lay blocks of its own.
  The library's slices.DeleteFunc at a row of texts of the call's own, with a function that may lay blocks of its own.
  What the implementation's out computes: the edges from a state.
  The library's Clone at lists of texts.
  The implementation's readyLabels, isStable, stable, lacking, refuse.
  The reference's l28Outputs, l28Offers, l28Wrong.
  A system of the call's own: how it lies in memory.
  What the refinement of both texts, RefinesFailures and EqualFailures return.
-/
import Derived.Test.YtaabkeejbhdenaaGreatDoorC14
import Derived.Test.YtaabkeejbhdenaaGreatDoorC6
import Derived.Test.YtaabkeejbhdenaaGreatDoorProg
import Derived.Test.YtaabkeejbhdenaaGreatDoorC1
import Derived.Test.YtaabkeejbhdenaaGreatDoorC4
import Derived.Test.YtaabkeejbhdenaaGreatDoorC3
import Derived.Test.YtaabkeejbhdenaaGreatDoorC11
import Derived.Test.YtaabkeejbhdenaaGreatDoorC10
namespace Go.Proofs.YtaabkeejbhdenaaGreatDoor
open Go Go.RowKit

set_option maxRecDepth 100000 in
set_option maxHeartbeats 2000000 in
theorem DeleteFuncI (B : Nat) (v : Value) (xs : List Int) (fid : Nat) (caps : Array Value) (P : Int → Bool) (w0 w : World) (ho : w.ownsRow B 2 1 v xs.length (xs.map (Value.int .i64))) (hb : Below B w0 w) (hB : B ≤ w.heap.size)
  (eg : ∀ args w, (callFunc fid args).run Tryz.prog w = .ok (.enter fid args) w) (hP : AskI fid caps P xs B w0) :
  Calls Tryz.prog 126 #[v, .func (.func fid) #[] caps] w fun e w' => ∃ v', e = .returned v' ∧ Below B w0 w' ∧ w'.ownsRow B 2 1 v' (xs.filter fun x => !P x).length ((xs.filter fun x => !P x).map (Value.int .i64)) := by
 have HP := Lib.hid hP
 have HB := Lib.hid hb
 have HO := Lib.hid ho
 have HIX := Lib.hid (IndexFuncI B v xs fid caps P w (SliceK.of_owns (e := 2) encI_len rfl (by rw [flat_encI]; exact ho)) eg fun w' hb' x hx => hP w' (hb.trans (hb'.mono hB)) x hx)
 have HHB := Lib.hid hB
 obtain ⟨a, c, rfl, hnc, hcc⟩ := owns_slice ho
 obtain ⟨r, hr⟩ : ∃ r, r = idxI P xs := ⟨_, rfl⟩
 rw [← hr] at HIX
 have HRI := Lib.hid hr
 obtain ⟨nx, hnx⟩ : ∃ nx, nx = xs.length := ⟨_, rfl⟩
 have HNX := Lib.hid hnx
 rw [← hnx] at HIX hnc ⊢
 clear hP hb ho hB hr hnx
 by_cases hneg : r = -1
 ·subst hneg
  have HF : Hid ((xs.filter fun x => !P x) = xs) := by
   unfold Hid
   rw [List.filter_eq_self]
   intro x hx
   rw [idxI_neg.1 HRI.out.symm x hx]
   rfl
  go_enter Tryz.func126, Tryz.ntmps126
  go_wp2_with fail
  refine Calls.mono HIX.out ?_
  rintro e w1 ⟨rfl, hb1⟩
  have HB1 := Lib.hid (HB.out.trans (hb1.mono HHB.out))
  have HO1 := Lib.hid (owns_below HO.out hb1)
  clear hb1 HIX
  go_wp2_with fail
  go_ret
  refine ⟨_, rfl, HB1.out, ?_⟩
  rw [HF.out, ← HNX.out]
  have h := HO1.out
  rw [← HNX.out] at h
  exact h
 ·obtain ⟨k0, hk0, hlt0, hp0, hpl⟩ : ∃ k0 : Nat, r = (k0 : Int) ∧ k0 < nx ∧ (∃ h : k0 < xs.length, P xs[k0] = true) ∧ ∀ j (h : j < xs.length), j < k0 → P xs[j] = false := by
   have h1 := HRI.out
   have h2 := HNX.out
   unfold idxI at h1
   by_cases hf : xs.findIdx P < xs.length
   ·rw [if_pos hf] at h1
    refine ⟨xs.findIdx P, h1, by omega, ⟨hf, List.findIdx_getElem (w := hf)⟩, fun j hj hjk => ?_⟩
    have := List.not_of_lt_findIdx hjk
    simpa using this
   ·rw [if_neg hf] at h1
    exact absurd h1 hneg
  subst hk0
  obtain ⟨g, ha2, hgB⟩ : ∃ g, a = some ⟨g, 0, none⟩ ∧ B ≤ g := by
   rcases HO.out.2 with ⟨e, e2⟩ | ⟨g, cap, cur, e, h1, -⟩
   ·have := HNX.out; omega
   ·simp only [Value.slice.injEq] at e
    exact ⟨g, e.1, h1⟩
  subst ha2
  have HGB := Lib.hid hgB
  have HIN : Hid (KeptIn P xs k0 (k0 + 1) (fun x => ((Value.int .i64) x))  (xs.map (Value.int .i64))) := KeptIn.start (by have := HNX.out; omega) hpl hp0.2
  have hne1 : ((k0 : Int) == -1) = false := beq_eq_false_iff_ne.2 (by omega)
  clear hneg hp0 hpl HRI
  go_enter Tryz.func126, Tryz.ntmps126
  go_wp2_with fail
  refine Calls.mono HIX.out ?_
  rintro e w1 ⟨rfl, hb1⟩
  have HB1 := Lib.hid (HB.out.trans (hb1.mono HHB.out))
  have HO1 : Hid (CellsAt w1 g 2 nx c (xs.map (Value.int .i64))) := CellsAt.of_owns (by have h := owns_below HO.out hb1; rw [← HNX.out] at h; exact h)
  clear hb1 HIX
  go_wp2_with fail
  go_loopw [5, 6, 7] (fun s5 s6 _ wr => ∃ (i j : Nat) (cs : List Value), s5 = .int .i64 i ∧ s6 = .int .i64 j ∧ j ≤ nx ∧ Below B w0 wr ∧ CellsAt wr g 2 nx c cs ∧ KeptIn P xs i j (fun x => (Value.int .i64) x) cs) (fun _ s6 _ _ => nx - (intOf s6).toNat)
  case atStart => exact ⟨k0, k0 + 1, _, rfl, by go_num, by omega, HB1.out, HO1.out, HIN.out⟩
  case round =>
   obtain ⟨i, j, cs, rfl, rfl, hj, hbl, hca, hki⟩ := hrel
   have HBL := Lib.hid hbl
   have HCA := Lib.hid hca
   have HKI := Lib.hid hki
   have hij := hki.lt
   by_cases hlt : j < nx
   ·have hltx : j < xs.length := by have := HNX.out; omega
    obtain ⟨x, hx⟩ : ∃ x, x = xs[j] := ⟨_, rfl⟩
    have HX := Lib.hid hx
    have cj : wr.cell? ⟨g, j, none⟩ = some (.int .i64 x) := by
     have h1 := hca.cell j (by omega)
     have h2 := hki.high j hltx (Nat.le_refl _)
     rw [h1, h2, hx]
    have ci := hca.cell_some i (by omega)
    obtain ⟨old, ci⟩ := ci
    have fi := hca.frozen i
    have hgl := hca.lt
    have HC := Lib.hid (HP.out wr hbl x (by rw [hx]; exact List.getElem_mem _))
    obtain ⟨b, hb⟩ : ∃ b, b = P x := ⟨_, rfl⟩
    rw [← hb] at HC
    have HBP := Lib.hid hb
    clear hb hx hbl hca hki ci fi
    go_wp2_with fail
    refine Calls.mono HC.out ?_
    rintro e w2 ⟨rfl, hb2⟩
    have HBL2 := Lib.hid (HBL.out.trans (hb2.mono (show B ≤ wr.heap.size from by have := HGB.out; omega)))
    have hca2 := HCA.out.below hb2
    have HCA2 := Lib.hid hca2
    obtain ⟨old, ci⟩ := hca2.cell_some i (by omega)
    have fi := hca2.frozen i
    clear hb2 hca2 cj
    cases b
    ·go_wp2_with fail
     go_roundw
     case rel => exact ⟨i + 1, j + 1, cs.set i (.int .i64 x), by go_num, by go_num, by omega, HBL2.out.setCell HGB.out _, HCA2.out.set i (by omega) _, by have h := HKI.out.keep hltx (by rw [← HX.out]; exact HBP.out.symm); rw [← HX.out] at h; exact h⟩
     case measure => simp [intOf]; omega
    ·go_wp2_with fail
     go_roundw
     case rel => exact ⟨i, j + 1, cs, rfl, by go_num, by omega, HBL2.out, HCA2.out, HKI.out.drop hltx (by rw [← HX.out]; exact HBP.out.symm)⟩
     case measure => simp [intOf]; omega
   ·obtain rfl : j = nx := by omega
    have HLEN : Hid ((xs.filter fun x => !P x).length = i ∧ i ≤ j ∧ (xs.filter fun x => !P x).map (Value.int .i64) = cs.take i) := by
     have h := hki.all (by have := HNX.out; omega)
     exact ⟨h.1, by omega, h.2⟩
    have hij2 : i < j := hij
    have hcl : ∀ ty, (Builtin.clear_ #[66] ty #[.slice (some ⟨g, i, none⟩) (j - i) (c - i)]).run Tryz.prog wr = .ok (.tuple #[]) (wr.setCells g i (List.replicate (j - i) (.int .i64 0))) :=
     fun ty => Lib.run_clear_slice wr _ _ ty _ Tryz.underlying66 (fun w => by kernel_rfl) rfl rfl g i _ _ (by omega) (fun t ht => by obtain ⟨o, ho⟩ := hca.cell_some (i + t) (by omega); rw [ho]; rfl) (fun t ht => hca.frozen (i + t))
    have HCAF : Hid (CellsAt (wr.setCells g i (List.replicate (j - i) (.int .i64 0))) g 2 j c (cs.take i ++ List.replicate (j - i) (.int .i64 0))) := hca.clear hij2
    have HBF : Hid (Below B w0 (wr.setCells g i (List.replicate (j - i) (.int .i64 0)))) := below_setCells HGB.out _ _ _ hbl
    clear hbl hca hki hij
    go_wp2_with fail
    go_ret
    refine ⟨_, rfl, HBF.out, ?_⟩
    rw [HLEN.out.1, HLEN.out.2.2]
    exact HCAF.out.owns (by rw [List.take_append_of_le_length (by have := HCAF.out.len; simp at this ⊢; omega), List.take_take]; simp) HLEN.out.2.1 HGB.out hnc hcc

end Go.Proofs.YtaabkeejbhdenaaGreatDoor

namespace Go.Proofs.YtaabkeejbhdenaaGreatDoor
open Go Go.RowKit

def idxS (P : ByteArray → Bool) (xs : List ByteArray) : Int := if xs.findIdx P < xs.length then (xs.findIdx P : Nat) else -1
theorem idxS_neg {P : ByteArray → Bool} {xs : List ByteArray} : idxS P xs = -1 ↔ ∀ x ∈ xs, P x = false := by
 unfold idxS
 by_cases h : xs.findIdx P < xs.length
 ·rw [if_pos h]
  refine ⟨fun e => by omega, fun h2 => ?_⟩
  obtain ⟨x, hx, hp⟩ := List.findIdx_lt_length.1 h
  rw [h2 x hx] at hp
  cases hp
 ·rw [if_neg h]
  refine ⟨fun _ x hx => ?_, fun _ => rfl⟩
  cases hp : P x
  ·rfl
  ·exact absurd (List.findIdx_lt_length.2 ⟨x, hx, hp⟩) h
theorem idxS_any {P : ByteArray → Bool} {xs : List ByteArray} : decide (0 ≤ idxS P xs) = xs.any P := by
 unfold idxS
 by_cases h : xs.findIdx P < xs.length
 ·rw [if_pos h]
  obtain ⟨x, hx, hp⟩ := List.findIdx_lt_length.1 h
  rw [List.any_eq_true.2 ⟨x, hx, hp⟩]
  simp
 ·rw [if_neg h]
  have : xs.any P = false := by
   rw [List.any_eq_false]
   intro x hx hp
   exact h (List.findIdx_lt_length.2 ⟨x, hx, hp⟩)
  rw [this]
  rfl
/-- A function of one element that answers P, and turns nothing that was there. -/
def AskS (fid : Nat) (caps : Array Value) (P : ByteArray → Bool) (xs : List ByteArray) (B : Nat) (w : World) : Prop :=
 ∀ w', Below B w w' → ∀ x ∈ xs, Calls Tryz.prog fid (#[.string x] ++ caps) w' fun e w'' => e = .returned (.bool (P x)) ∧ Below w'.heap.size w' w''

set_option maxRecDepth 100000 in
set_option maxHeartbeats 1000000 in
theorem IndexFuncS (lo : Nat) (v : Value) (xs : List ByteArray) (fid : Nat) (caps : Array Value) (P : ByteArray → Bool) (w : World) (hv : SliceK 1 encS lo w v xs) (eg : ∀ args w, (callFunc fid args).run Tryz.prog w = .ok (.enter fid args) w) (hP : AskS fid caps P xs w.heap.size w) :
  Calls Tryz.prog 124 #[v, .func (.func fid) #[] caps] w fun e w' => e = .returned (.int .i64 (idxS P xs)) ∧ Below w.heap.size w w' := by
 obtain ⟨a, c, rfl, hcn, hcc, hrow⟩ := hv
 have HR := Lib.hid hrow
 have HP := Lib.hid hP
 clear hP hrow
 go_enter Tryz.func124, Tryz.ntmps124
 go_wp2_with fail
 go_loopw [8] (fun i wr => ∃ k : Nat, k ≤ xs.length ∧ i = .int .i64 k ∧ Below w.heap.size w wr ∧ ∀ j (h : j < xs.length), j < k → P xs[j] = false) (fun i _ => xs.length - (intOf i).toNat)
 case atStart => exact ⟨0, Nat.zero_le _, rfl, Below.refl _ _, fun _ _ h => by omega⟩
 case round =>
  obtain ⟨k, hk, rfl, hbl, ha⟩ := hrel
  have HA := Lib.hid ha
  have HBL := Lib.hid hbl
  clear ha
  by_cases hlt : k < xs.length
  ·obtain ⟨b1, o1, rfl, -, hbs, c1⟩ := (HR.out.below hbl).one hlt
   simp only [encS, List.getElem?_cons_zero] at c1
   clear hbl
   obtain ⟨x, hx⟩ : ∃ x, x = xs[k] := ⟨_, rfl⟩
   rw [← hx] at c1
   have HX := Lib.hid hx
   have HC := Lib.hid (HP.out wr HBL.out x (by rw [hx]; exact List.getElem_mem _))
   obtain ⟨b, hb⟩ : ∃ b, b = P x := ⟨_, rfl⟩
   rw [← hb] at HC
   have HB := Lib.hid hb
   clear hb hx
   go_wp2_with fail
   refine Calls.mono HC.out ?_
   rintro e w1 ⟨rfl, hb1⟩
   have HB1 := Lib.hid (HBL.out.trans (hb1.mono HBL.out.size))
   clear hb1 c1
   cases b
   ·go_wp2_with fail
    go_roundw
    case rel => exact ⟨k + 1, by omega, by go_num, HB1.out, fun j h hj => by
     by_cases e : j = k
     ·subst e; rw [← HX.out]; exact HB.out.symm
     ·exact HA.out j h (by omega)⟩
    case measure => simp [intOf]; omega
   ·have HI : Hid (idxS P xs = (k : Int)) := by
     unfold Hid idxS
     have h1 : xs.findIdx P = k := by
      rw [List.findIdx_eq hlt]
      exact ⟨by rw [← HX.out]; exact HB.out.symm, fun j hj => HA.out j (by omega) hj⟩
     rw [h1, if_pos hlt]
    go_wp2_with fail
    go_ret
    exact ⟨ret_int HI.out.symm, HB1.out⟩
  ·clear hbl
   have HI : Hid (idxS P xs = -1) := by
    unfold Hid
    rw [idxS_neg]
    intro x hx
    obtain ⟨j, hj, rfl⟩ := List.mem_iff_getElem.1 hx
    exact HA.out j hj (by omega)
   go_wp2_with fail
   go_ret
   exact ⟨ret_int HI.out.symm, HBL.out⟩

end Go.Proofs.YtaabkeejbhdenaaGreatDoor

namespace Go.Proofs.YtaabkeejbhdenaaGreatDoor
open Go Go.RowKit

set_option maxRecDepth 100000 in
set_option maxHeartbeats 2000000 in
theorem DeleteFuncS (B : Nat) (v : Value) (xs : List ByteArray) (fid : Nat) (caps : Array Value) (P : ByteArray → Bool) (w0 w : World) (ho : w.ownsRow B 9 1 v xs.length (xs.map Value.string)) (hb : Below B w0 w) (hB : B ≤ w.heap.size)
  (eg : ∀ args w, (callFunc fid args).run Tryz.prog w = .ok (.enter fid args) w) (hP : AskS fid caps P xs B w0) :
  Calls Tryz.prog 133 #[v, .func (.func fid) #[] caps] w fun e w' => ∃ v', e = .returned v' ∧ Below B w0 w' ∧ w'.ownsRow B 9 1 v' (xs.filter fun x => !P x).length ((xs.filter fun x => !P x).map Value.string) := by
 have HP := Lib.hid hP
 have HB := Lib.hid hb
 have HO := Lib.hid ho
 have HIX := Lib.hid (IndexFuncS B v xs fid caps P w (SliceK.of_owns (e := 9) encS_len rfl (by rw [flat_encS]; exact ho)) eg fun w' hb' x hx => hP w' (hb.trans (hb'.mono hB)) x hx)
 have HHB := Lib.hid hB
 obtain ⟨a, c, rfl, hnc, hcc⟩ := owns_slice ho
 obtain ⟨r, hr⟩ : ∃ r, r = idxS P xs := ⟨_, rfl⟩
 rw [← hr] at HIX
 have HRI := Lib.hid hr
 obtain ⟨nx, hnx⟩ : ∃ nx, nx = xs.length := ⟨_, rfl⟩
 have HNX := Lib.hid hnx
 rw [← hnx] at HIX hnc ⊢
 clear hP hb ho hB hr hnx
 by_cases hneg : r = -1
 ·subst hneg
  have HF : Hid ((xs.filter fun x => !P x) = xs) := by
   unfold Hid
   rw [List.filter_eq_self]
   intro x hx
   rw [idxS_neg.1 HRI.out.symm x hx]
   rfl
  go_enter Tryz.func133, Tryz.ntmps133
  go_wp2_with fail
  refine Calls.mono HIX.out ?_
  rintro e w1 ⟨rfl, hb1⟩
  have HB1 := Lib.hid (HB.out.trans (hb1.mono HHB.out))
  have HO1 := Lib.hid (owns_below HO.out hb1)
  clear hb1 HIX
  go_wp2_with fail
  go_ret
  refine ⟨_, rfl, HB1.out, ?_⟩
  rw [HF.out, ← HNX.out]
  have h := HO1.out
  rw [← HNX.out] at h
  exact h
 ·obtain ⟨k0, hk0, hlt0, hp0, hpl⟩ : ∃ k0 : Nat, r = (k0 : Int) ∧ k0 < nx ∧ (∃ h : k0 < xs.length, P xs[k0] = true) ∧ ∀ j (h : j < xs.length), j < k0 → P xs[j] = false := by
   have h1 := HRI.out
   have h2 := HNX.out
   unfold idxS at h1
   by_cases hf : xs.findIdx P < xs.length
   ·rw [if_pos hf] at h1
    refine ⟨xs.findIdx P, h1, by omega, ⟨hf, List.findIdx_getElem (w := hf)⟩, fun j hj hjk => ?_⟩
    have := List.not_of_lt_findIdx hjk
    simpa using this
   ·rw [if_neg hf] at h1
    exact absurd h1 hneg
  subst hk0
  obtain ⟨g, ha2, hgB⟩ : ∃ g, a = some ⟨g, 0, none⟩ ∧ B ≤ g := by
   rcases HO.out.2 with ⟨e, e2⟩ | ⟨g, cap, cur, e, h1, -⟩
   ·have := HNX.out; omega
   ·simp only [Value.slice.injEq] at e
    exact ⟨g, e.1, h1⟩
  subst ha2
  have HGB := Lib.hid hgB
  have HIN : Hid (KeptIn P xs k0 (k0 + 1) (fun x => (Value.string x))  (xs.map Value.string)) := KeptIn.start (by have := HNX.out; omega) hpl hp0.2
  have hne1 : ((k0 : Int) == -1) = false := beq_eq_false_iff_ne.2 (by omega)
  clear hneg hp0 hpl HRI
  go_enter Tryz.func133, Tryz.ntmps133
  go_wp2_with fail
  refine Calls.mono HIX.out ?_
  rintro e w1 ⟨rfl, hb1⟩
  have HB1 := Lib.hid (HB.out.trans (hb1.mono HHB.out))
  have HO1 : Hid (CellsAt w1 g 9 nx c (xs.map Value.string)) := CellsAt.of_owns (by have h := owns_below HO.out hb1; rw [← HNX.out] at h; exact h)
  clear hb1 HIX
  go_wp2_with fail
  go_loopw [5, 6, 7] (fun s5 s6 _ wr => ∃ (i j : Nat) (cs : List Value), s5 = .int .i64 i ∧ s6 = .int .i64 j ∧ j ≤ nx ∧ Below B w0 wr ∧ CellsAt wr g 9 nx c cs ∧ KeptIn P xs i j (fun x => Value.string x) cs) (fun _ s6 _ _ => nx - (intOf s6).toNat)
  case atStart => exact ⟨k0, k0 + 1, _, rfl, by go_num, by omega, HB1.out, HO1.out, HIN.out⟩
  case round =>
   obtain ⟨i, j, cs, rfl, rfl, hj, hbl, hca, hki⟩ := hrel
   have HBL := Lib.hid hbl
   have HCA := Lib.hid hca
   have HKI := Lib.hid hki
   have hij := hki.lt
   by_cases hlt : j < nx
   ·have hltx : j < xs.length := by have := HNX.out; omega
    obtain ⟨x, hx⟩ : ∃ x, x = xs[j] := ⟨_, rfl⟩
    have HX := Lib.hid hx
    have cj : wr.cell? ⟨g, j, none⟩ = some (.string x) := by
     have h1 := hca.cell j (by omega)
     have h2 := hki.high j hltx (Nat.le_refl _)
     rw [h1, h2, hx]
    have ci := hca.cell_some i (by omega)
    obtain ⟨old, ci⟩ := ci
    have fi := hca.frozen i
    have hgl := hca.lt
    have HC := Lib.hid (HP.out wr hbl x (by rw [hx]; exact List.getElem_mem _))
    obtain ⟨b, hb⟩ : ∃ b, b = P x := ⟨_, rfl⟩
    rw [← hb] at HC
    have HBP := Lib.hid hb
    clear hb hx hbl hca hki ci fi
    go_wp2_with fail
    refine Calls.mono HC.out ?_
    rintro e w2 ⟨rfl, hb2⟩
    have HBL2 := Lib.hid (HBL.out.trans (hb2.mono (show B ≤ wr.heap.size from by have := HGB.out; omega)))
    have hca2 := HCA.out.below hb2
    have HCA2 := Lib.hid hca2
    obtain ⟨old, ci⟩ := hca2.cell_some i (by omega)
    have fi := hca2.frozen i
    clear hb2 hca2 cj
    cases b
    ·go_wp2_with fail
     go_roundw
     case rel => exact ⟨i + 1, j + 1, cs.set i (.string x), by go_num, by go_num, by omega, HBL2.out.setCell HGB.out _, HCA2.out.set i (by omega) _, by have h := HKI.out.keep hltx (by rw [← HX.out]; exact HBP.out.symm); rw [← HX.out] at h; exact h⟩
     case measure => simp [intOf]; omega
    ·go_wp2_with fail
     go_roundw
     case rel => exact ⟨i, j + 1, cs, rfl, by go_num, by omega, HBL2.out, HCA2.out, HKI.out.drop hltx (by rw [← HX.out]; exact HBP.out.symm)⟩
     case measure => simp [intOf]; omega
   ·obtain rfl : j = nx := by omega
    have HLEN : Hid ((xs.filter fun x => !P x).length = i ∧ i ≤ j ∧ (xs.filter fun x => !P x).map Value.string = cs.take i) := by
     have h := hki.all (by have := HNX.out; omega)
     exact ⟨h.1, by omega, h.2⟩
    have hij2 : i < j := hij
    have hcl : ∀ ty, (Builtin.clear_ #[22] ty #[.slice (some ⟨g, i, none⟩) (j - i) (c - i)]).run Tryz.prog wr = .ok (.tuple #[]) (wr.setCells g i (List.replicate (j - i) (.string ⟨#[]⟩))) :=
     fun ty => Lib.run_clear_slice wr _ _ ty _ Tryz.underlying22 (fun w => by kernel_rfl) rfl rfl g i _ _ (by omega) (fun t ht => by obtain ⟨o, ho⟩ := hca.cell_some (i + t) (by omega); rw [ho]; rfl) (fun t ht => hca.frozen (i + t))
    have HCAF : Hid (CellsAt (wr.setCells g i (List.replicate (j - i) (.string ⟨#[]⟩))) g 9 j c (cs.take i ++ List.replicate (j - i) (.string ⟨#[]⟩))) := hca.clear hij2
    have HBF : Hid (Below B w0 (wr.setCells g i (List.replicate (j - i) (.string ⟨#[]⟩)))) := below_setCells HGB.out _ _ _ hbl
    clear hbl hca hki hij
    go_wp2_with fail
    go_ret
    refine ⟨_, rfl, HBF.out, ?_⟩
    rw [HLEN.out.1, HLEN.out.2.2]
    exact HCAF.out.owns (by rw [List.take_append_of_le_length (by have := HCAF.out.len; simp at this ⊢; omega), List.take_take]; simp) HLEN.out.2.1 HGB.out hnc hcc

end Go.Proofs.YtaabkeejbhdenaaGreatDoor

namespace Go.Proofs.YtaabkeejbhdenaaGreatDoor
open Go Go.RowKit

set_option maxRecDepth 100000 in
set_option maxHeartbeats 2000000 in
theorem out_any (lo : Nat) (t : Lts) (lv ev : Value) (s : Int) (w : World) (hsmall : t.edges.length ≤ 1073741824) (he : SliceK 3 encE lo w ev t.edges) :
  Calls Tryz.prog 117 #[.agg #[.int .i64 t.states, .int .i64 t.initial, lv, ev], .int .i64 s] w (MadeOut t s w) := by
 obtain ⟨ae, ce, rfl, hen, hec, hrow⟩ := he
 obtain ⟨i0, hi, hz0, hz1, hz2⟩ := info_parts info_edge2
 have HB0 : Hid (Below w.heap.size w (w.alloc (.cells #[.int .i64 t.states, .int .i64 t.initial, lv, .slice ae t.edges.length ce] 29))) := (Below.refl _ _).alloc (Nat.le_refl _) _
 go_enter Tryz.func117, Tryz.ntmps117
 go_wp2_with fail
 go_loopw [5, 11] (fun v i wr => ∃ k : Nat, k ≤ t.edges.length ∧ i = .int .i64 k ∧ Below w.heap.size w wr ∧ wr.ownsRow w.heap.size 73 3 v ((t.edges.take k).filter fun e => e.src == s).length (((t.edges.take k).filter fun e => e.src == s).flatMap encE)) (fun _ i _ => t.edges.length - (intOf i).toNat)
 case atStart => exact ⟨0, Nat.zero_le _, rfl, HB0.out, World.ownsRow_nil _ _ _ _⟩
 case round =>
  obtain ⟨k, hk, rfl, hbl, ho⟩ := hrel
  have HBL := Lib.hid hbl
  have HO := Lib.hid ho
  have hsz := hbl.size
  have hfl : ((t.edges.take k).filter fun e => e.src == s).length ≤ k := Nat.le_trans (List.length_filter_le _ _) (List.length_take_le _ _)
  clear hbl ho
  by_cases hlt : k < t.edges.length
  ·obtain ⟨be, oe, rfl, -, hbe, e1, e2, e3⟩ := (hrow.below HBL.out).edge hlt
   clear hrow
   have HBA : Hid (Below w.heap.size w (wr.alloc (.cells #[.int .i64 t.edges[k].src, .int .i64 t.edges[k].lab, .int .i64 t.edges[k].dst] 73))) := HBL.out.alloc hsz _
   have HOA : Hid ((wr.alloc (.cells #[.int .i64 t.edges[k].src, .int .i64 t.edges[k].lab, .int .i64 t.edges[k].dst] 73)).ownsRow w.heap.size 73 3 u5 ((t.edges.take k).filter fun e => e.src == s).length (((t.edges.take k).filter fun e => e.src == s).flatMap encE)) := HO.out.alloc _
   cases g : (t.edges[k].src == s)
   ·have HL : Hid ((t.edges.take (k + 1)).filter (fun e => e.src == s) = (t.edges.take k).filter fun e => e.src == s) := by
     unfold Hid
     rw [List.take_succ_eq_append_getElem hlt, List.filter_append]
     simp [g]
    go_wp2_with fail
    go_roundw
    case rel => exact ⟨k + 1, by omega, by go_num, HBA.out, by rw [HL.out]; exact HOA.out⟩
    case measure => simp [intOf]; omega
   ·have HL : Hid ((t.edges.take (k + 1)).filter (fun e => e.src == s) = ((t.edges.take k).filter fun e => e.src == s) ++ [t.edges[k]]) := by
     unfold Hid
     rw [List.take_succ_eq_append_getElem hlt, List.filter_append]
     simp [g]
    generalize hfs : (t.edges.take k).filter (fun e => e.src == s) = fs at *
    have HFS := Lib.hid hfs
    clear hfs
    go_wp2_with (at_builtin; refine wpList_append_own _ rfl _ _ 27 rfl w.heap.size 73 i0 (.agg #[.int .i64 0, .int .i64 0, .int .i64 0]) 3 24 Tryz.underlying27 hi hz0 hz1 hz2 rfl (by decide) _ _ _ rfl (HOA.out.alloc _) ⟨wr.heap.size + 1, 0, none⟩ 1 1 (encE t.edges[k]) rfl rfl ?c1 ?c2 ?c3 ?c4 ?c5 ?_)
    case c1 => have := three_new (wr.alloc (.cells #[.int .i64 t.edges[k].src, .int .i64 t.edges[k].lab, .int .i64 t.edges[k].dst] 73)) t.edges[k] 73; simpa using this
    case c2 => intro u hu; simp [encE] at hu; rcases hu with rfl | rfl | rfl <;> rfl
    case c3 => simp [maxLen]; omega
    case c4 => omega
    case c5 => simp; omega
    intro v' w1 ho1 hg1 _
    have HO2 : Hid (w1.ownsRow w.heap.size 73 3 v' (fs ++ [t.edges[k]]).length ((fs ++ [t.edges[k]]).flatMap encE)) := by
     unfold Hid
     rw [List.length_append, List.flatMap_append, List.flatMap_singleton]
     exact ho1
    have HB2 : Hid (Below w.heap.size w w1) := (HBA.out.alloc (by simp; omega) _).grown hg1 (by simp; omega) (fun b e => (HO.out.lt b e).1)
    clear ho1 hg1
    go_wp2_with fail
    go_roundw
    case rel => exact ⟨k + 1, by omega, by go_num, HB2.out, by rw [HL.out]; exact HO2.out⟩
    case measure => simp [intOf]; omega
  ·clear hrow
   go_wp2_with fail
   go_ret
   obtain rfl : k = t.edges.length := by omega
   exact ⟨_, rfl, HBL.out, by unfold outOf; have := HO.out; rw [List.take_length] at this; exact this⟩

end Go.Proofs.YtaabkeejbhdenaaGreatDoor

namespace Go.Proofs.YtaabkeejbhdenaaGreatDoor
open Go Go.RowKit

theorem CloneS_own (lo : Nat) (v : Value) (xs : List ByteArray) (w : World) (hv : SliceK 1 encS lo w v xs) (hz : xs.length ≤ 1048576) :
  Calls Tryz.prog 81 #[v] w fun e w' => ∃ v', e = .returned v' ∧ w'.ownsRow w.heap.size 9 1 v' xs.length (xs.map Value.string) ∧ Below w.heap.size w w' := by
 obtain ⟨a, c, rfl, hn, hc, hrow⟩ := hv
 cases a with
 | none =>
  have h0 : xs.length = 0 := by
   rcases hrow with h | ⟨b, o, h, -⟩
   ·exact h
   ·cases h
  have hx : xs = [] := List.eq_nil_of_length_eq_zero h0
  subst hx
  refine (Tryz.slices_Clone_string_nil _ _ w).mono ?_
  rintro e w' ⟨rfl, rfl⟩
  exact ⟨_, rfl, World.ownsRow_nil _ _ _ _, Below.refl _ _⟩
 | some a =>
  rcases hrow with h0 | ⟨b, o, h, -, hb, hcell⟩
  ·have hx : xs = [] := List.eq_nil_of_length_eq_zero h0
   subst hx
   refine (Tryz.slices_Clone_string_zero a c w).mono ?_
   rintro e w' ⟨v', rfl, ho, -, hb⟩
   exact ⟨v', rfl, ho, hb⟩
  ·cases h
   refine (Tryz.slices_Clone_string b o xs.length c xs w (Nat.le_refl _) (by omega) (fun j hj => ?_)).mono ?_
   ·have := hcell j hj 0 (by omega)
    rw [List.getD_eq_getElem?_getD, List.getElem?_eq_getElem hj]
    simpa [encS] using this
   ·rintro e w' ⟨v', rfl, ho, -, hb2⟩
    rw [List.take_length] at ho
    exact ⟨v', rfl, ho, hb2⟩

end Go.Proofs.YtaabkeejbhdenaaGreatDoor

namespace Go.Proofs.YtaabkeejbhdenaaGreatDoor
open Go Go.RowKit

theorem info_strI : (Tryz.prog.info? 9).map (fun i => (i.zero, i.size, i.bytes)) = some (some (.string ⟨#[]⟩), 1, 16) := by kernel_rfl
def MadeTxI (xs : List ByteArray) (w : World) (e : Ending) (w' : World) : Prop := ∃ v, e = .returned v ∧ Below w.heap.size w w' ∧ OwnStrs w.heap.size w' v xs

set_option maxRecDepth 100000 in
set_option maxHeartbeats 4000000 in
theorem readyLabels_any (lo : Nat) (t : Lts) (lv ev : Value) (s : Int) (w : World) (hv : Valid t) (hl : SliceK 1 encS lo w lv t.labels) (he : SliceK 3 encE lo w ev t.edges) :
  Calls Tryz.prog 129 #[.agg #[.int .i64 t.states, .int .i64 t.initial, lv, ev], .int .i64 s] w (MadeTxI (rdy t s) w) := by
 obtain ⟨tb, htb⟩ : ∃ tb, tb = w.heap.size := ⟨_, rfl⟩
 obtain ⟨wA, hwA⟩ : ∃ wA, wA = w.alloc (.cells #[.int .i64 t.states, .int .i64 t.initial, lv, ev] 29) := ⟨_, rfl⟩
 have hbA : Below w.heap.size w wA := by rw [hwA]; exact (Below.refl _ _).alloc (Nat.le_refl _) _
 have hT : Blk wA tb [.int .i64 t.states, .int .i64 t.initial, lv, ev] 29 := by rw [hwA, htb]; exact Blk.new w _ _
 have HO := Lib.hid (out_any lo t lv ev s wA (by have := hv.most; omega) (he.below hbA))
 have HV := Lib.hid hv
 have HT := Lib.hid hT
 obtain ⟨al, cl, rfl, hlc, -, hlrow⟩ := hl.below hbA
 have hL1 := hv.labels.pos
 obtain ⟨bl, ol, rfl, hblw, hcl⟩ : ∃ bl ol, al = some ⟨bl, ol, none⟩ ∧ bl < wA.heap.size ∧ ∀ i (h : i < t.labels.length), wA.cell? ⟨bl, ol + i, none⟩ = some (.string t.labels[i]) := by
  rcases hlrow with h | ⟨bl, ol, h1, -, h3, h4⟩
  ·omega
  ·exact ⟨bl, ol, h1, h3, fun i hi => by have := h4 i hi 0 (by omega); simpa [encS] using this⟩
 obtain ⟨LN, hLN⟩ : ∃ LN, LN = t.labels.length := ⟨_, rfl⟩
 rw [← hLN] at HT HO hwA hlc hL1 ⊢
 have HLN := Lib.hid hLN
 have HCL := Lib.hid hcl
 have HBA := Lib.hid hbA
 have HWA := Lib.hid hwA
 have HTB := Lib.hid htb
 have htl : tb < wA.heap.size := hT.lt
 obtain ⟨i3, hi3, hz30, hz31, hz32⟩ := info_parts info_strI
 clear hv hl he hwA hbA hT htb hLN hcl hlrow
 go_enter Tryz.func129, Tryz.ntmps129
 go_wp2_with fail
 rw [← HWA.out]
 try rw [← HTB.out]
 refine Calls.mono HO.out ?_
 rintro e w1 ⟨v1, rfl, hb1, ho1⟩
 obtain ⟨oa, oc, rfl, -, -⟩ := owns_slice ho1
 have hom : (outOf t s).length ≤ 300 := Nat.le_trans (List.length_filter_le _ _) HV.out.most
 have hsE : SliceK 3 encE wA.heap.size w1 (.slice oa (outOf t s).length oc) (outOf t s) := SliceK.of_owns (enc := encE) (e := 73) encE_len rfl ho1
 obtain ⟨a9, c9, h9, -, -, hrowE⟩ := hsE
 simp only [Value.slice.injEq] at h9
 obtain ⟨rfl, -, rfl⟩ := h9
 obtain ⟨os, hos⟩ : ∃ os, os = outOf t s := ⟨_, rfl⟩
 have HOK : Hid (∀ e ∈ os, EdgeOk t e) := by unfold Hid; rw [hos]; exact outOf_ok HV.out s
 rw [← hos] at hrowE hom ⊢
 obtain ⟨ON, hON⟩ : ∃ ON, ON = os.length := ⟨_, rfl⟩
 rw [← hON] at hom ⊢
 have HROW := Lib.hid hrowE
 have HON := Lib.hid hON
 have HOS := Lib.hid hos
 have HB1 := Lib.hid hb1
 have hs1 := hb1.size
 clear hb1 ho1 hrowE hON hos HO
 go_wp2
 go_loopw [5, 12] (fun v5 v12 wr => ∃ k : Nat, k ≤ ON ∧ v12 = .int .i64 k ∧ Below w1.heap.size w1 wr ∧ wr.ownsRow w1.heap.size 9 1 v5 k (((os.take k).map (labAt t)).map Value.string)) (fun _ v12 _ => ON - (intOf v12).toNat)
 case atStart => exact ⟨0, Nat.zero_le _, rfl, Below.refl _ _, ⟨rfl, .inl ⟨rfl, rfl⟩⟩⟩
 case round =>
  obtain ⟨k, hk, rfl, hbl, ho⟩ := hrel
  have HBL := Lib.hid hbl
  have HOW := Lib.hid ho
  have hsz := hbl.size
  obtain ⟨va, vc, hv5, -, -⟩ := owns_slice ho
  subst hv5
  by_cases hlt : k < ON
  ·have hlt2 : k < os.length := by rw [← HON.out]; exact hlt
   obtain ⟨be, oe, rfl, -, hbe, e1, e2, e3⟩ := (HROW.out.below hbl).edge hlt2
   have hok := HOK.out _ (List.getElem_mem hlt2)
   have HNX : Hid (((os.take (k + 1)).map (labAt t)).map Value.string = ((os.take k).map (labAt t)).map Value.string ++ [.string (labAt t os[k])]) := by
    unfold Hid
    rw [List.take_succ_eq_append_getElem hlt2, List.map_append, List.map_append]
    rfl
   obtain ⟨l, hl⟩ : ∃ l, l = labAt t os[k] := ⟨_, rfl⟩
   rw [← hl] at HNX
   obtain ⟨ts, hts⟩ : ∃ ts, ts = ((os.take k).map (labAt t)).map Value.string := ⟨_, rfl⟩
   rw [← hts] at HNX ho
   obtain ⟨x, hx⟩ : ∃ x, x = os[k] := ⟨_, rfl⟩
   rw [← hx] at e1 e2 e3 hl hok
   obtain ⟨m, hm⟩ : ∃ m : Nat, (m : Int) = x.lab := ⟨x.lab.toNat, by have := hok.l0; omega⟩
   have hmt : x.lab.toNat = m := by omega
   have hmL2 : m < t.labels.length := by have := hok.l1; omega
   have hmL : m < LN := by have := HLN.out; omega
   have hlm : l = t.labels[m] := by
    rw [hl]
    unfold labAt
    rw [hmt, List.getD_eq_getElem?_getD, List.getElem?_eq_getElem hmL2]
    rfl
   have hcm : wA.cell? ⟨bl, ol + m, none⟩ = some (.string l) := by rw [hlm]; exact HCL.out m hmL2
   rw [← hm] at e2
   obtain ⟨xs, hxs⟩ : ∃ xs, xs = x.src := ⟨_, rfl⟩
   obtain ⟨xd, hxd⟩ : ∃ xd, xd = x.dst := ⟨_, rfl⟩
   rw [← hxs] at e1
   rw [← hxd] at e3
   have hbAr : Below wA.heap.size wA wr := HB1.out.trans (hbl.mono hs1)
   obtain ⟨wD, hwD⟩ : ∃ wD, wD = wr.alloc (.cells #[.int .i64 xs, .int .i64 m, .int .i64 xd] 73) := ⟨_, rfl⟩
   have hbD : Below wA.heap.size wA wD := by rw [hwD]; exact hbAr.alloc (by have := hbAr.size; omega) _
   have t2 := keeps hbD htl (HT.out.cell 2 rfl)
   have cm := keeps hbD hblw hcm
   have HD1 : Hid (Below w1.heap.size w1 (wr.alloc (.cells #[.int .i64 xs, .int .i64 m, .int .i64 xd] 73))) := hbl.alloc hsz _
   have HOD : Hid ((wr.alloc (.cells #[.int .i64 xs, .int .i64 m, .int .i64 xd] 73)).ownsRow w1.heap.size 9 1 (.slice va k vc) k ts) := ho.alloc _
   rw [hwD] at t2 cm
   have htlr : tb < wr.heap.size := by have := hbAr.size; omega
   have hblr : bl < wr.heap.size := by have := hbAr.size; omega
   clear hts HOW
   clear hbl ho hok hl hlm hx hm hmt hmL2 hcm hxs hxd hbAr hwD hbD
   go_wp2_with (at_builtin; refine wpList_append_own _ rfl _ _ 22 rfl w1.heap.size 9 i3 (.string ⟨#[]⟩) 1 16 Tryz.underlying22 hi3 hz30 hz31 hz32 rfl (by decide) _ k _ rfl (HOD.out.alloc _) ⟨wr.heap.size + 1, 0, none⟩ 1 1 [.string l] rfl rfl ?c1 ?c2 ?c3 ?c4 ?c5 ?_)
   case c1 => exact World.news_of_block (cs := #[.string l]) (t := 9) (fr := (0, 0)) (by have h := heap_alloc_new (wr.alloc (.cells #[.int .i64 xs, .int .i64 m, .int .i64 xd] 73)) (.cells #[.string l] 9); rw [World.size_alloc] at h; exact h)
   case c2 => intro u hu; simp at hu; subst hu; rfl
   case c3 => simp [maxLen]; omega
   case c4 => omega
   case c5 => simp; omega
   intro v7 w7 ho7 hg7 _
   have HB7 : Hid (Below w1.heap.size w1 w7) := (HD1.out.alloc HD1.out.size _).grown hg7 (by simp; omega) (fun b e => (HOD.out.lt b e).1)
   have HO7 : Hid (w7.ownsRow w1.heap.size 9 1 v7 (k + 1) (((os.take (k + 1)).map (labAt t)).map Value.string)) := by unfold Hid; rw [HNX.out]; exact ho7
   clear ho7 hg7 t2 cm
   go_wp2
   go_roundw
   case rel => exact ⟨k + 1, by omega, by go_num, HB7.out, HO7.out⟩
   case measure => simp [intOf]; omega
  ·obtain rfl : k = ON := by omega
   have hall : os.take k = os := List.take_of_length_le (by have := HON.out; omega)
   rw [hall] at HOW
   have hln : (os.map (labAt t)).length = k := by rw [List.length_map]; exact HON.out.symm
   have HS1 := Lib.hid (SortL_own w1.heap.size (.slice va k vc) (os.map (labAt t)) wr (by rw [hln]; exact HOW.out) (by omega))
   have HBWr := Lib.hid (HB1.out.trans (hbl.mono hs1))
   have HLN2 := Lib.hid hln
   clear hbl ho hall hln
   go_wp2_with fail
   refine Calls.mono HS1.out ?_
   rintro e w8 ⟨rfl, ho8, hg8⟩
   have HB8 := Lib.hid (HBWr.out.grown hg8 (by exact HBWr.out.size) (fun b e => by have := (HOW.out.lt b e).1; omega))
   have HC8 := Lib.hid (CompactL_own w1.heap.size (.slice va k vc) (os.map (labAt t)) w8 ho8)
   have HLT := Lib.hid (fun b e => (ho8.lt b e).1)
   clear ho8 hg8 HS1
   go_wp2_with fail
   refine Calls.mono HC8.out ?_
   rintro e w9 ⟨v9, rfl, ho9, hg9⟩
   have HB9 := Lib.hid (HB8.out.grown hg9 HB8.out.size (fun b e => by have := HLT.out b e; omega))
   have HO9 := Lib.hid ho9
   clear ho9 hg9 HC8
   go_wp2_with fail
   go_ret
   refine ⟨_, rfl, HBA.out.trans (HB9.out.mono HBA.out.size), ?_⟩
   have h := own_lower HO9.out (Nat.le_trans HBA.out.size hs1)
   rw [HOS.out] at h
   exact h

end Go.Proofs.YtaabkeejbhdenaaGreatDoor

namespace Go.Proofs.YtaabkeejbhdenaaGreatDoor
open Go Go.RowKit

theorem info_strO : (Tryz.prog.info? 9).map (fun i => (i.zero, i.size, i.bytes)) = some (some (.string ⟨#[]⟩), 1, 16) := by kernel_rfl
/-- An edge with the label, from one of the states. -/
def hitO (n : Int) (S : List Int) (e : Edge) : Bool := (e.lab == n) && S.contains e.src
theorem hasE_yes {t : Lts} {S : List Int} {n : Int} {k : Nat} (hk : k < t.edges.length) (h : hitO n S t.edges[k] = true) : hasE t S n = true := by
 unfold hasE
 rw [List.any_eq_true]
 exact ⟨_, List.getElem_mem hk, h⟩
theorem hasE_no {t : Lts} {S : List Int} {n : Int} (h : ∀ j (h : j < t.edges.length), hitO n S t.edges[j] = false) : hasE t S n = false := by
 unfold hasE
 rw [List.any_eq_false]
 intro e he
 obtain ⟨j, hj, rfl⟩ := List.mem_iff_getElem.1 he
 have := h j hj
 unfold hitO at this
 rw [this]
 simp

set_option maxRecDepth 100000 in
set_option maxHeartbeats 4000000 in
theorem l28Outputs_any (p lo lo2 : Nat) (t : Lts) (v sv : Value) (ins : List ByteArray) (S : List Int) (w : World) (hv : Valid t) (hsh : Short t.labels) (hp : LtsPtr lo w p t) (hi : SliceK 1 encS lo w v ins) (hs : SliceK 1 encI lo2 w sv S) :
  Calls Tryz.prog 122 #[.pointer (some ⟨p, 0, none⟩), v, sv] w (MadeTxI (outsL t ins S) w) := by
 have HV := Lib.hid hv
 have hmost := hv.most
 have hmostL := hv.labels.most
 have HI := Lib.hid hi
 have HS := Lib.hid hs
 have HSH := Lib.hid hsh
 obtain ⟨lv, ev, hpl, -, -, q2, q3, hl, he⟩ := hp
 obtain ⟨ae, ce, rfl, hen, hec, hrow⟩ := he
 obtain ⟨al, cl, rfl, hlc, -, hlrow⟩ := hl
 obtain ⟨E, hE⟩ : ∃ E, E = t.edges.length := ⟨_, rfl⟩
 obtain ⟨LN, hLN⟩ : ∃ LN, LN = t.labels.length := ⟨_, rfl⟩
 have hL1 := hv.labels.pos
 obtain ⟨bl, ol, rfl, hblw, hcl⟩ : ∃ bl ol, al = some ⟨bl, ol, none⟩ ∧ bl < w.heap.size ∧ ∀ i (h : i < t.labels.length), w.cell? ⟨bl, ol + i, none⟩ = some (.string t.labels[i]) := by
  rcases hlrow with h | ⟨bl, ol, h1, -, h3, h4⟩
  ·omega
  ·exact ⟨bl, ol, h1, h3, fun i hi => by have := h4 i hi 0 (by omega); simpa [encS] using this⟩
 rw [← hE] at q3 hen hmost
 rw [← hLN] at q2 hlc hL1 hmostL
 have HR := Lib.hid hrow
 have HQ3 := Lib.hid q3
 have HQ2 := Lib.hid q2
 have HCL := Lib.hid hcl
 have HE := Lib.hid hE
 have HLN := Lib.hid hLN
 obtain ⟨i3, hi3, hz30, hz31, hz32⟩ := info_parts info_strO
 clear hv hrow hE q2 q3 hcl hLN hlrow hi hs hsh
 go_enter Tryz.func122, Tryz.ntmps122
 go_wp2
 go_loopw [7, 8] (fun v7 v8 wr => ∃ n : Nat, 1 ≤ n ∧ n ≤ LN ∧ v8 = .int .i64 n ∧ Below w.heap.size w wr ∧ wr.ownsRow w.heap.size 9 1 v7 (outsTo t ins S n).length ((outsTo t ins S n).map .string)) (fun _ v8 _ => LN - (intOf v8).toNat)
 case atStart => exact ⟨1, Nat.le_refl _, hL1, rfl, (Below.refl _ _).alloc (Nat.le_refl _) _, by rw [outsTo_one]; exact World.ownsRow_lit (size := 1) w #[] 0 (Nat.le_refl _) (by simp [maxLen]) rfl⟩
 case round =>
  obtain ⟨n, hn1, hn, rfl, hbl, ho⟩ := hrel
  have HBL := Lib.hid hbl
  have hsz := hbl.size
  have q2 := keeps hbl hpl HQ2.out
  have hol := outsTo_len t ins S n
  obtain ⟨va, vc, hv5, -, -⟩ := owns_slice ho
  subst hv5
  obtain ⟨os, hos⟩ : ∃ os, os = outsTo t ins S n := ⟨_, rfl⟩
  rw [← hos] at ho hol ⊢
  obtain ⟨ON, hON⟩ : ∃ ON, ON = os.length := ⟨_, rfl⟩
  rw [← hON] at ho hol ⊢
  have HO := Lib.hid ho
  have HON := Lib.hid hON
  have HOS := Lib.hid hos
  by_cases hlt : n < LN
  ·have hlt2 : n < t.labels.length := by rw [← HLN.out]; exact hlt
   have HNX := Lib.hid (outsTo_succ HV.out ins S hn1 hlt2)
   rw [← hos] at HNX
   obtain ⟨l, hl⟩ : ∃ l, l = t.labels[n] := ⟨_, rfl⟩
   have hcm : w.cell? ⟨bl, ol + n, none⟩ = some (.string l) := by rw [hl]; exact HCL.out n hlt2
   have HLS : l.size ≤ 1073741824 := by rw [hl]; exact HSH.out n hlt2
   have hot : (l.toList == [116, 97, 117]) = false := by
    rw [hl, beq_eq_false_iff_ne]
    exact HV.out.labels.other n hlt2 (by omega)
   have HOU := Lib.hid (l28Output_any lo v ins l wr HLS (HI.out.below hbl))
   rw [show outS ins l = outB ins l from by unfold outS; rw [hot]; rfl] at HOU
   rw [← hl] at HNX
   have HCM := Lib.hid hcm
   have lcm := keeps hbl hblw hcm
   obtain ⟨c, hc⟩ : ∃ c, c = outB ins l := ⟨_, rfl⟩
   rw [← hc] at HOU HNX
   clear hbl ho hl hcm hot HLS hc hON hos
   go_wp2_with fail
   refine Calls.mono HOU.out ?_
   rintro e w1 ⟨rfl, hb1⟩
   have HB1 := Lib.hid (HBL.out.trans (hb1.mono hsz))
   have HO1 := Lib.hid (owns_below HO.out hb1)
   have hs1 := HB1.out.size
   clear hb1 HOU lcm q2
   cases c
   ·have HN2 : Hid (outsTo t ins S (n + 1) = os) := by unfold Hid; rw [HNX.out]; simp
    go_wp2
    go_roundw
    case rel => exact ⟨n + 1, by omega, by omega, by go_num, HB1.out, by rw [HN2.out, ← HON.out]; exact HO1.out⟩
    case measure => simp [intOf]; omega
   ·go_wp2
    go_loopw [7, 9] (fun v7 v9 wr => ∃ k : Nat, k ≤ E ∧ v9 = .int .i64 k ∧ v7 = .slice va ON vc ∧ Below w1.heap.size w1 wr ∧ ∀ j (h : j < t.edges.length), j < k → hitO n S t.edges[j] = false) (fun _ v9 _ => E - (intOf v9).toNat)
    case atStart => exact ⟨0, Nat.zero_le _, rfl, rfl, Below.refl _ _, fun _ _ h => by omega⟩
    case round =>
     obtain ⟨k, hk, rfl, rfl, hbk, hx1⟩ := hrel
     have hB2 := HB1.out.trans (hbk.mono hs1)
     have HX1 := Lib.hid hx1
     have HBK := Lib.hid hbk
     have HB2 := Lib.hid hB2
     have HO2 := Lib.hid (owns_below HO1.out hbk)
     have hs2 := hB2.size
     have hsk := hbk.size
     have q3 := keeps hB2 hpl HQ3.out
     clear hx1 hbk
     by_cases hke : k < E
     ·have hke2 : k < t.edges.length := by rw [← HE.out]; exact hke
      obtain ⟨be, oe, rfl, -, hbe, e1, e2, e3⟩ := (HR.out.below hB2).edge hke2
      obtain ⟨x, hx⟩ : ∃ x, x = t.edges[k] := ⟨_, rfl⟩
      rw [← hx] at e1 e2 e3
      have HX := Lib.hid hx
      obtain ⟨xs, hxs⟩ : ∃ xs, xs = x.src := ⟨_, rfl⟩
      obtain ⟨xl, hxl⟩ : ∃ xl, xl = x.lab := ⟨_, rfl⟩
      rw [← hxs] at e1
      rw [← hxl] at e2
      have HHIT : Hid (hitO n S t.edges[k] = ((xl == (n : Int)) && S.contains xs)) := by unfold Hid hitO; rw [← hx, hxs, hxl]
      have HHAS := Lib.hid (l00Has_any lo2 sv S xs wr (HS.out.below hB2))
      obtain ⟨c2, hc2⟩ : ∃ c2, c2 = S.contains xs := ⟨_, rfl⟩
      rw [← hc2] at HHIT HHAS
      clear hB2 hx hxs hxl hc2 e3
      cases g1 : (xl == (n : Int))
      ·have HF : Hid (hitO n S t.edges[k] = false) := by unfold Hid; rw [HHIT.out, g1]; rfl
       go_wp2
       go_roundw
       case rel => exact ⟨k + 1, by omega, by go_num, rfl, HBK.out, fun j h h' => by
        by_cases e : j = k
        ·subst e; exact HF.out
        ·exact HX1.out j h (by omega)⟩
       case measure => simp [intOf]; omega
      ·go_wp2_with fail
       refine Calls.mono HHAS.out ?_
       rintro e w3 ⟨rfl, hb3⟩
       have HB3 := Lib.hid (HB2.out.trans (hb3.mono hs2))
       have HBK3 := Lib.hid (HBK.out.trans (hb3.mono hsk))
       have HO3 := Lib.hid (owns_below HO2.out hb3)
       have hs3 := HB3.out.size
       clear hb3 HHAS q3 e1 e2
       cases c2
       ·have HF : Hid (hitO n S t.edges[k] = false) := by unfold Hid; rw [HHIT.out, g1]; rfl
        go_wp2
        go_roundw
        case rel => exact ⟨k + 1, by omega, by go_num, rfl, HBK3.out, fun j h h' => by
         by_cases e : j = k
         ·subst e; exact HF.out
         ·exact HX1.out j h (by omega)⟩
        case measure => simp [intOf]; omega
       ·have HN2 : Hid (outsTo t ins S (n + 1) = os ++ [l]) := by
         unfold Hid
         rw [HNX.out, hasE_yes hke2 (by rw [HHIT.out, g1]; rfl)]
         rfl
        have q2 := keeps HB3.out hpl HQ2.out
        have lcm := keeps HB3.out hblw HCM.out
        have hcn := cell_one_new w3 (.string l) 9
        go_wp2_with (at_builtin; refine wpList_append_own _ rfl _ _ 22 rfl w.heap.size 9 i3 (.string ⟨#[]⟩) 1 16 Tryz.underlying22 hi3 hz30 hz31 hz32 rfl (by decide) _ _ _ rfl (HO3.out.alloc _) ⟨w3.heap.size, 0, none⟩ 1 1 [.string l] rfl rfl ?c1 ?c2 ?c3 ?c4 ?c5 ?_)
        case c1 => exact hcn
        case c2 => first | rfl | (intro u hu; simp at hu; subst hu; rfl)
        case c3 => first | omega | (simp [maxLen]; omega)
        case c4 => first | omega | (simp; omega)
        case c5 => first | omega | (simp; omega)
        intro v4 w4 ho4 hg4 _
        have HB4 := Lib.hid ((HB3.out.alloc hs3 _).grown hg4 (by simp; omega) (fun b e => (HO3.out.lt b e).1))
        have HO4 : Hid (w4.ownsRow w.heap.size 9 1 v4 (os ++ [l]).length ((os ++ [l]).map .string)) := by
         unfold Hid
         rw [List.length_append, List.length_singleton, ← HON.out, List.map_append]
         exact ho4
        clear ho4 hg4 q2 lcm hcn
        go_wp2
        go_roundw
        case rel => exact ⟨n + 1, by omega, by omega, by go_num, HB4.out, by rw [HN2.out]; exact HO4.out⟩
        case measure => simp [intOf]; omega
     ·have HN2 : Hid (outsTo t ins S (n + 1) = os) := by
       unfold Hid
       rw [HNX.out, hasE_no fun j h => HX1.out j h (by have := HE.out; omega)]
       simp
      clear hB2
      go_wp2
      go_roundw
      case rel => exact ⟨n + 1, by omega, by omega, by go_num, HB2.out, by rw [HN2.out, ← HON.out]; exact HO2.out⟩
      case measure => simp [intOf]; omega
  ·have HF : Hid (outsL t ins S = os) := by
    unfold Hid
    rw [HOS.out, outsTo_all]
    have := HLN.out
    omega
   clear hbl ho
   go_wp2
   go_ret
   exact ⟨_, rfl, HBL.out, by unfold OwnStrs; rw [HF.out, ← HON.out]; exact HO.out⟩

set_option maxRecDepth 100000 in
theorem l28Offers_any (p lo : Nat) (t : Lts) (v : Value) (ins : List ByteArray) (q : Int) (w : World) (hv : Valid t) (hsh : Short t.labels) (hp : LtsPtr lo w p t) (hi : SliceK 1 encS lo w v ins) :
  Calls Tryz.prog 72 #[.pointer (some ⟨p, 0, none⟩), v, .int .i64 q] w (MadeTxI (outsL t ins [q]) w) := by
 obtain ⟨wA, hwA⟩ : ∃ wA, wA = w.alloc (.cells #[.int .i64 q] 2) := ⟨_, rfl⟩
 have hbA : Below w.heap.size w wA := by rw [hwA]; exact (Below.refl _ _).alloc (Nat.le_refl _) _
 have ho : wA.ownsRow w.heap.size 2 1 (.slice (some ⟨w.heap.size, 0, none⟩) 1 1) 1 [.int .i64 q] := by rw [hwA]; exact World.ownsRow_lit (size := 1) w #[.int .i64 q] 1 (Nat.le_refl _) (by decide) rfl
 have HO := Lib.hid (l28Outputs_any p lo w.heap.size t v (.slice (some ⟨w.heap.size, 0, none⟩) 1 1) ins [q] wA hv hsh (hp.below hbA) (hi.below hbA) (SliceK.of_owns (enc := encI) (e := 2) encI_len rfl ho))
 have HBA := Lib.hid hbA
 have HWA := Lib.hid hwA
 clear hv hsh hp hi hbA hwA ho
 go_enter Tryz.func72, Tryz.ntmps72
 go_wp2_with fail
 rw [← HWA.out]
 refine Calls.mono HO.out ?_
 rintro e w1 ⟨v1, rfl, hb1, ho1⟩
 have HB1 := Lib.hid (HBA.out.trans (hb1.mono HBA.out.size))
 have HO1 := Lib.hid (OwnStrs.lower ho1 HBA.out.size)
 clear hb1 ho1 HO
 go_wp2
 go_ret
 exact ⟨_, rfl, HB1.out, HO1.out⟩

end Go.Proofs.YtaabkeejbhdenaaGreatDoor

namespace Go.Proofs.YtaabkeejbhdenaaGreatDoor
open Go Go.RowKit

/-- A system of the call's own. -/
def OwnLts (lo : Nat) (w : World) (lv ev : Value) (t : Lts) : Prop := w.ownsRow lo 9 1 lv t.labels.length (t.labels.map .string) ∧ w.ownsRow lo 73 3 ev t.edges.length (t.edges.flatMap encE)
theorem OwnLts.below {lo : Nat} {w w' : World} {lv ev : Value} {t : Lts} (h : OwnLts lo w lv ev t) (hb : Below w.heap.size w w') : OwnLts lo w' lv ev t := ⟨owns_below h.1 hb, owns_below h.2 hb⟩
theorem OwnLts.lower {lo lo' : Nat} {w : World} {lv ev : Value} {t : Lts} (h : OwnLts lo w lv ev t) (hl : lo' ≤ lo) : OwnLts lo' w lv ev t := ⟨own_lower h.1 hl, own_lower h.2 hl⟩
theorem OwnLts.turns {base lo hi : Nat} {w w' : World} {lv ev : Value} {t : Lts} (h : OwnLts base w lv ev t) (ht : Turns lo hi w w') (hb : hi ≤ base) : OwnLts base w' lv ev t :=
 ⟨owns_turns h.1 ht (fun b e => .inr (Nat.le_trans hb (h.1.lt b e).1)), owns_turns h.2 ht (fun b e => .inr (Nat.le_trans hb (h.2.lt b e).1))⟩
theorem OwnLts.at {lo : Nat} {w : World} {lv ev : Value} {t : Lts} (h : OwnLts lo w lv ev t) : LtsAt lo w (.agg #[.int .i64 t.states, .int .i64 t.initial, lv, ev]) t :=
 ⟨lv, ev, rfl, SliceK.of_owns (e := 9) encS_len rfl (by rw [flat_encS]; exact h.1), SliceK.of_owns (e := 73) encE_len rfl h.2⟩

end Go.Proofs.YtaabkeejbhdenaaGreatDoor

namespace Go.Proofs.YtaabkeejbhdenaaGreatDoor
open Go Go.RowKit

theorem bothL_few {a b : Lts} (ha : Valid a) (hb : Valid b) : (bothL a b).length ≤ 25 := by
 unfold bothL labSet
 rw [List.length_map]
 refine Nat.le_trans (Lib.compact_length_le _) ?_
 rw [List.length_mergeSort, List.length_map, List.length_cons, List.length_append]
 have h1 := ha.labels.most
 have h2 := hb.labels.most
 omega
end Go.Proofs.YtaabkeejbhdenaaGreatDoor
