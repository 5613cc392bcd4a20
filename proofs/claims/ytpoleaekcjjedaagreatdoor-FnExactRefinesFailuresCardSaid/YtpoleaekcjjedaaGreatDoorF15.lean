/-
  The library's slices.IndexFunc and slices.ContainsFunc at a slice of texts, with a function that may lay blocks of its own.
  The library's slices.DeleteFunc at a row of texts of the call's own, with a function that may lay blocks of its own.
  What the implementation's out computes: the edges from a state.
  The library's Clone at lists of texts.
  The implementation's readyLabels, isStable, stable, lacking, refuse.
  The implementation's isStable, stable, lacking, refuse.
  Where one system does not refine another one: the reference's search, plainly.
-/
import Derived.Test.YtpoleaekcjjedaaGreatDoorProg
import Derived.Test.YtpoleaekcjjedaaGreatDoorF1
import Derived.Test.YtpoleaekcjjedaaGreatDoorF14
import Derived.Test.YtpoleaekcjjedaaGreatDoorF5
import Derived.Test.YtpoleaekcjjedaaGreatDoorF7
import Derived.Deep.RegionHeld3
import Derived.Test.YtpoleaekcjjedaaGreatDoorF10
namespace Go.Proofs.YtpoleaekcjjedaaGreatDoor
open Go Go.RowKit

def idxS (P : ByteArray → Bool) (xs : List ByteArray) : Int := if xs.findIdx P < xs.length then (xs.findIdx P : Nat) else -1
theorem idxS_neg {P : ByteArray → Bool} {xs : List ByteArray} : idxS P xs = -1 ↔ ∀ x ∈ xs, P x = false := by
 unfold idxS
 by_cases h : xs.findIdx P < xs.length
 ·rw [if_pos h]
  refine ⟨fun e => by omega, fun h2 => ?_⟩
  obtain ⟨x, hx, hp⟩ := List.findIdx_lt_length.1 h
  rw [h2 x hx] at hp
  cases hp
 ·rw [if_neg h]
  refine ⟨fun _ x hx => ?_, fun _ => rfl⟩
  cases hp : P x
  ·rfl
  ·exact absurd (List.findIdx_lt_length.2 ⟨x, hx, hp⟩) h
theorem idxS_any {P : ByteArray → Bool} {xs : List ByteArray} : decide (0 ≤ idxS P xs) = xs.any P := by
 unfold idxS
 by_cases h : xs.findIdx P < xs.length
 ·rw [if_pos h]
  obtain ⟨x, hx, hp⟩ := List.findIdx_lt_length.1 h
  rw [List.any_eq_true.2 ⟨x, hx, hp⟩]
  simp
 ·rw [if_neg h]
  have : xs.any P = false := by
   rw [List.any_eq_false]
   intro x hx hp
   exact h (List.findIdx_lt_length.2 ⟨x, hx, hp⟩)
  rw [this]
  rfl
/-- A function of one element that answers P, and turns nothing that was there. -/
def AskS (fid : Nat) (caps : Array Value) (P : ByteArray → Bool) (xs : List ByteArray) (B : Nat) (w : World) : Prop :=
 ∀ w', Below B w w' → ∀ x ∈ xs, Calls Tryz.prog fid (#[.string x] ++ caps) w' fun e w'' => e = .returned (.bool (P x)) ∧ Below w'.heap.size w' w''

set_option maxRecDepth 100000 in
set_option maxHeartbeats 1000000 in
theorem IndexFuncS (lo : Nat) (v : Value) (xs : List ByteArray) (fid : Nat) (caps : Array Value) (P : ByteArray → Bool) (w : World) (hv : SliceK 1 encS lo w v xs) (eg : ∀ args w, (callFunc fid args).run Tryz.prog w = .ok (.enter fid args) w) (hP : AskS fid caps P xs w.heap.size w) :
  Calls Tryz.prog 253 #[v, .func (.func fid) #[] caps] w fun e w' => e = .returned (.int .i64 (idxS P xs)) ∧ Below w.heap.size w w' := by
 obtain ⟨a, c, rfl, hcn, hcc, hrow⟩ := hv
 have HR := Lib.hid hrow
 have HP := Lib.hid hP
 clear hP hrow
 go_enter Tryz.func253, Tryz.ntmps253
 go_wp2_with fail
 go_loopw [8] (fun i wr => ∃ k : Nat, k ≤ xs.length ∧ i = .int .i64 k ∧ Below w.heap.size w wr ∧ ∀ j (h : j < xs.length), j < k → P xs[j] = false) (fun i _ => xs.length - (intOf i).toNat)
 case atStart => exact ⟨0, Nat.zero_le _, rfl, Below.refl _ _, fun _ _ h => by omega⟩
 case round =>
  obtain ⟨k, hk, rfl, hbl, ha⟩ := hrel
  have HA := Lib.hid ha
  have HBL := Lib.hid hbl
  clear ha
  by_cases hlt : k < xs.length
  ·obtain ⟨b1, o1, rfl, -, hbs, c1⟩ := (HR.out.below hbl).one hlt
   simp only [encS, List.getElem?_cons_zero] at c1
   clear hbl
   obtain ⟨x, hx⟩ : ∃ x, x = xs[k] := ⟨_, rfl⟩
   rw [← hx] at c1
   have HX := Lib.hid hx
   have HC := Lib.hid (HP.out wr HBL.out x (by rw [hx]; exact List.getElem_mem _))
   obtain ⟨b, hb⟩ : ∃ b, b = P x := ⟨_, rfl⟩
   rw [← hb] at HC
   have HB := Lib.hid hb
   clear hb hx
   go_wp2_with fail
   refine Calls.mono HC.out ?_
   rintro e w1 ⟨rfl, hb1⟩
   have HB1 := Lib.hid (HBL.out.trans (hb1.mono HBL.out.size))
   clear hb1 c1
   cases b
   ·go_wp2_with fail
    go_roundw
    case rel => exact ⟨k + 1, by omega, by go_num, HB1.out, fun j h hj => by
     by_cases e : j = k
     ·subst e; rw [← HX.out]; exact HB.out.symm
     ·exact HA.out j h (by omega)⟩
    case measure => simp [intOf]; omega
   ·have HI : Hid (idxS P xs = (k : Int)) := by
     unfold Hid idxS
     have h1 : xs.findIdx P = k := by
      rw [List.findIdx_eq hlt]
      exact ⟨by rw [← HX.out]; exact HB.out.symm, fun j hj => HA.out j (by omega) hj⟩
     rw [h1, if_pos hlt]
    go_wp2_with fail
    go_ret
    exact ⟨ret_int HI.out.symm, HB1.out⟩
  ·clear hbl
   have HI : Hid (idxS P xs = -1) := by
    unfold Hid
    rw [idxS_neg]
    intro x hx
    obtain ⟨j, hj, rfl⟩ := List.mem_iff_getElem.1 hx
    exact HA.out j hj (by omega)
   go_wp2_with fail
   go_ret
   exact ⟨ret_int HI.out.symm, HBL.out⟩

end Go.Proofs.YtpoleaekcjjedaaGreatDoor

namespace Go.Proofs.YtpoleaekcjjedaaGreatDoor
open Go Go.RowKit

set_option maxRecDepth 100000 in
set_option maxHeartbeats 2000000 in
theorem DeleteFuncS (B : Nat) (v : Value) (xs : List ByteArray) (fid : Nat) (caps : Array Value) (P : ByteArray → Bool) (w0 w : World) (ho : w.ownsRow B 9 1 v xs.length (xs.map Value.string)) (hb : Below B w0 w) (hB : B ≤ w.heap.size)
  (eg : ∀ args w, (callFunc fid args).run Tryz.prog w = .ok (.enter fid args) w) (hP : AskS fid caps P xs B w0) :
  Calls Tryz.prog 215 #[v, .func (.func fid) #[] caps] w fun e w' => ∃ v', e = .returned v' ∧ Below B w0 w' ∧ w'.ownsRow B 9 1 v' (xs.filter fun x => !P x).length ((xs.filter fun x => !P x).map Value.string) := by
 have HP := Lib.hid hP
 have HB := Lib.hid hb
 have HO := Lib.hid ho
 have HIX := Lib.hid (IndexFuncS B v xs fid caps P w (SliceK.of_owns (e := 9) encS_len rfl (by rw [flat_encS]; exact ho)) eg fun w' hb' x hx => hP w' (hb.trans (hb'.mono hB)) x hx)
 have HHB := Lib.hid hB
 obtain ⟨a, c, rfl, hnc, hcc⟩ := owns_slice ho
 obtain ⟨r, hr⟩ : ∃ r, r = idxS P xs := ⟨_, rfl⟩
 rw [← hr] at HIX
 have HRI := Lib.hid hr
 obtain ⟨nx, hnx⟩ : ∃ nx, nx = xs.length := ⟨_, rfl⟩
 have HNX := Lib.hid hnx
 rw [← hnx] at HIX hnc ⊢
 clear hP hb ho hB hr hnx
 by_cases hneg : r = -1
 ·subst hneg
  have HF : Hid ((xs.filter fun x => !P x) = xs) := by
   unfold Hid
   rw [List.filter_eq_self]
   intro x hx
   rw [idxS_neg.1 HRI.out.symm x hx]
   rfl
  go_enter Tryz.func215, Tryz.ntmps215
  go_wp2_with fail
  refine Calls.mono HIX.out ?_
  rintro e w1 ⟨rfl, hb1⟩
  have HB1 := Lib.hid (HB.out.trans (hb1.mono HHB.out))
  have HO1 := Lib.hid (owns_below HO.out hb1)
  clear hb1 HIX
  go_wp2_with fail
  go_ret
  refine ⟨_, rfl, HB1.out, ?_⟩
  rw [HF.out, ← HNX.out]
  have h := HO1.out
  rw [← HNX.out] at h
  exact h
 ·obtain ⟨k0, hk0, hlt0, hp0, hpl⟩ : ∃ k0 : Nat, r = (k0 : Int) ∧ k0 < nx ∧ (∃ h : k0 < xs.length, P xs[k0] = true) ∧ ∀ j (h : j < xs.length), j < k0 → P xs[j] = false := by
   have h1 := HRI.out
   have h2 := HNX.out
   unfold idxS at h1
   by_cases hf : xs.findIdx P < xs.length
   ·rw [if_pos hf] at h1
    refine ⟨xs.findIdx P, h1, by omega, ⟨hf, List.findIdx_getElem (w := hf)⟩, fun j hj hjk => ?_⟩
    have := List.not_of_lt_findIdx hjk
    simpa using this
   ·rw [if_neg hf] at h1
    exact absurd h1 hneg
  subst hk0
  obtain ⟨g, ha2, hgB⟩ : ∃ g, a = some ⟨g, 0, none⟩ ∧ B ≤ g := by
   rcases HO.out.2 with ⟨e, e2⟩ | ⟨g, cap, cur, e, h1, -⟩
   ·have := HNX.out; omega
   ·simp only [Value.slice.injEq] at e
    exact ⟨g, e.1, h1⟩
  subst ha2
  have HGB := Lib.hid hgB
  have HIN : Hid (KeptIn P xs k0 (k0 + 1) (fun x => (Value.string x))  (xs.map Value.string)) := KeptIn.start (by have := HNX.out; omega) hpl hp0.2
  have hne1 : ((k0 : Int) == -1) = false := beq_eq_false_iff_ne.2 (by omega)
  clear hneg hp0 hpl HRI
  go_enter Tryz.func215, Tryz.ntmps215
  go_wp2_with fail
  refine Calls.mono HIX.out ?_
  rintro e w1 ⟨rfl, hb1⟩
  have HB1 := Lib.hid (HB.out.trans (hb1.mono HHB.out))
  have HO1 : Hid (CellsAt w1 g 9 nx c (xs.map Value.string)) := CellsAt.of_owns (by have h := owns_below HO.out hb1; rw [← HNX.out] at h; exact h)
  clear hb1 HIX
  go_wp2_with fail
  go_loopw [5, 6, 7] (fun s5 s6 _ wr => ∃ (i j : Nat) (cs : List Value), s5 = .int .i64 i ∧ s6 = .int .i64 j ∧ j ≤ nx ∧ Below B w0 wr ∧ CellsAt wr g 9 nx c cs ∧ KeptIn P xs i j (fun x => Value.string x) cs) (fun _ s6 _ _ => nx - (intOf s6).toNat)
  case atStart => exact ⟨k0, k0 + 1, _, rfl, by go_num, by omega, HB1.out, HO1.out, HIN.out⟩
  case round =>
   obtain ⟨i, j, cs, rfl, rfl, hj, hbl, hca, hki⟩ := hrel
   have HBL := Lib.hid hbl
   have HCA := Lib.hid hca
   have HKI := Lib.hid hki
   have hij := hki.lt
   by_cases hlt : j < nx
   ·have hltx : j < xs.length := by have := HNX.out; omega
    obtain ⟨x, hx⟩ : ∃ x, x = xs[j] := ⟨_, rfl⟩
    have HX := Lib.hid hx
    have cj : wr.cell? ⟨g, j, none⟩ = some (.string x) := by
     have h1 := hca.cell j (by omega)
     have h2 := hki.high j hltx (Nat.le_refl _)
     rw [h1, h2, hx]
    have ci := hca.cell_some i (by omega)
    obtain ⟨old, ci⟩ := ci
    have fi := hca.frozen i
    have hgl := hca.lt
    have HC := Lib.hid (HP.out wr hbl x (by rw [hx]; exact List.getElem_mem _))
    obtain ⟨b, hb⟩ : ∃ b, b = P x := ⟨_, rfl⟩
    rw [← hb] at HC
    have HBP := Lib.hid hb
    clear hb hx hbl hca hki ci fi
    go_wp2_with fail
    refine Calls.mono HC.out ?_
    rintro e w2 ⟨rfl, hb2⟩
    have HBL2 := Lib.hid (HBL.out.trans (hb2.mono (show B ≤ wr.heap.size from by have := HGB.out; omega)))
    have hca2 := HCA.out.below hb2
    have HCA2 := Lib.hid hca2
    obtain ⟨old, ci⟩ := hca2.cell_some i (by omega)
    have fi := hca2.frozen i
    clear hb2 hca2 cj
    cases b
    ·go_wp2_with fail
     go_roundw
     case rel => exact ⟨i + 1, j + 1, cs.set i (.string x), by go_num, by go_num, by omega, HBL2.out.setCell HGB.out _, HCA2.out.set i (by omega) _, by have h := HKI.out.keep hltx (by rw [← HX.out]; exact HBP.out.symm); rw [← HX.out] at h; exact h⟩
     case measure => simp [intOf]; omega
    ·go_wp2_with fail
     go_roundw
     case rel => exact ⟨i, j + 1, cs, rfl, by go_num, by omega, HBL2.out, HCA2.out, HKI.out.drop hltx (by rw [← HX.out]; exact HBP.out.symm)⟩
     case measure => simp [intOf]; omega
   ·obtain rfl : j = nx := by omega
    have HLEN : Hid ((xs.filter fun x => !P x).length = i ∧ i ≤ j ∧ (xs.filter fun x => !P x).map Value.string = cs.take i) := by
     have h := hki.all (by have := HNX.out; omega)
     exact ⟨h.1, by omega, h.2⟩
    have hij2 : i < j := hij
    have hcl : ∀ ty, (Builtin.clear_ #[22] ty #[.slice (some ⟨g, i, none⟩) (j - i) (c - i)]).run Tryz.prog wr = .ok (.tuple #[]) (wr.setCells g i (List.replicate (j - i) (.string ⟨#[]⟩))) :=
     fun ty => Lib.run_clear_slice wr _ _ ty _ Tryz.underlying22 (fun w => by kernel_rfl) rfl rfl g i _ _ (by omega) (fun t ht => by obtain ⟨o, ho⟩ := hca.cell_some (i + t) (by omega); rw [ho]; rfl) (fun t ht => hca.frozen (i + t))
    have HCAF : Hid (CellsAt (wr.setCells g i (List.replicate (j - i) (.string ⟨#[]⟩))) g 9 j c (cs.take i ++ List.replicate (j - i) (.string ⟨#[]⟩))) := hca.clear hij2
    have HBF : Hid (Below B w0 (wr.setCells g i (List.replicate (j - i) (.string ⟨#[]⟩)))) := below_setCells HGB.out _ _ _ hbl
    clear hbl hca hki hij
    go_wp2_with fail
    go_ret
    refine ⟨_, rfl, HBF.out, ?_⟩
    rw [HLEN.out.1, HLEN.out.2.2]
    exact HCAF.out.owns (by rw [List.take_append_of_le_length (by have := HCAF.out.len; simp at this ⊢; omega), List.take_take]; simp) HLEN.out.2.1 HGB.out hnc hcc

end Go.Proofs.YtpoleaekcjjedaaGreatDoor

namespace Go.Proofs.YtpoleaekcjjedaaGreatDoor
open Go Go.RowKit

set_option maxRecDepth 100000 in
set_option maxHeartbeats 2000000 in
theorem out_any (lo : Nat) (t : Lts) (lv ev : Value) (s : Int) (w : World) (hsmall : t.edges.length ≤ 1073741824) (he : SliceK 3 encE lo w ev t.edges) :
  Calls Tryz.prog 127 #[.agg #[.int .i64 t.states, .int .i64 t.initial, lv, ev], .int .i64 s] w (MadeOut t s w) := by
 obtain ⟨ae, ce, rfl, hen, hec, hrow⟩ := he
 obtain ⟨i0, hi, hz0, hz1, hz2⟩ := info_parts info_edge2
 have HB0 : Hid (Below w.heap.size w (w.alloc (.cells #[.int .i64 t.states, .int .i64 t.initial, lv, .slice ae t.edges.length ce] 31))) := (Below.refl _ _).alloc (Nat.le_refl _) _
 go_enter Tryz.func127, Tryz.ntmps127
 go_wp2_with fail
 go_loopw [5, 11] (fun v i wr => ∃ k : Nat, k ≤ t.edges.length ∧ i = .int .i64 k ∧ Below w.heap.size w wr ∧ wr.ownsRow w.heap.size 135 3 v ((t.edges.take k).filter fun e => e.src == s).length (((t.edges.take k).filter fun e => e.src == s).flatMap encE)) (fun _ i _ => t.edges.length - (intOf i).toNat)
 case atStart => exact ⟨0, Nat.zero_le _, rfl, HB0.out, World.ownsRow_nil _ _ _ _⟩
 case round =>
  obtain ⟨k, hk, rfl, hbl, ho⟩ := hrel
  have HBL := Lib.hid hbl
  have HO := Lib.hid ho
  have hsz := hbl.size
  have hfl : ((t.edges.take k).filter fun e => e.src == s).length ≤ k := Nat.le_trans (List.length_filter_le _ _) (List.length_take_le _ _)
  clear hbl ho
  by_cases hlt : k < t.edges.length
  ·obtain ⟨be, oe, rfl, -, hbe, e1, e2, e3⟩ := (hrow.below HBL.out).edge hlt
   clear hrow
   have HBA : Hid (Below w.heap.size w (wr.alloc (.cells #[.int .i64 t.edges[k].src, .int .i64 t.edges[k].lab, .int .i64 t.edges[k].dst] 135))) := HBL.out.alloc hsz _
   have HOA : Hid ((wr.alloc (.cells #[.int .i64 t.edges[k].src, .int .i64 t.edges[k].lab, .int .i64 t.edges[k].dst] 135)).ownsRow w.heap.size 135 3 u5 ((t.edges.take k).filter fun e => e.src == s).length (((t.edges.take k).filter fun e => e.src == s).flatMap encE)) := HO.out.alloc _
   cases g : (t.edges[k].src == s)
   ·have HL : Hid ((t.edges.take (k + 1)).filter (fun e => e.src == s) = (t.edges.take k).filter fun e => e.src == s) := by
     unfold Hid
     rw [List.take_succ_eq_append_getElem hlt, List.filter_append]
     simp [g]
    go_wp2_with fail
    go_roundw
    case rel => exact ⟨k + 1, by omega, by go_num, HBA.out, by rw [HL.out]; exact HOA.out⟩
    case measure => simp [intOf]; omega
   ·have HL : Hid ((t.edges.take (k + 1)).filter (fun e => e.src == s) = ((t.edges.take k).filter fun e => e.src == s) ++ [t.edges[k]]) := by
     unfold Hid
     rw [List.take_succ_eq_append_getElem hlt, List.filter_append]
     simp [g]
    generalize hfs : (t.edges.take k).filter (fun e => e.src == s) = fs at *
    have HFS := Lib.hid hfs
    clear hfs
    go_wp2_with (at_builtin; refine wpList_append_own _ rfl _ _ 29 rfl w.heap.size 135 i0 (.agg #[.int .i64 0, .int .i64 0, .int .i64 0]) 3 24 Tryz.underlying29 hi hz0 hz1 hz2 rfl (by decide) _ _ _ rfl (HOA.out.alloc _) ⟨wr.heap.size + 1, 0, none⟩ 1 1 (encE t.edges[k]) rfl rfl ?c1 ?c2 ?c3 ?c4 ?c5 ?_)
    case c1 => have := three_new (wr.alloc (.cells #[.int .i64 t.edges[k].src, .int .i64 t.edges[k].lab, .int .i64 t.edges[k].dst] 135)) t.edges[k] 135; simpa using this
    case c2 => intro u hu; simp [encE] at hu; rcases hu with rfl | rfl | rfl <;> rfl
    case c3 => simp [maxLen]; omega
    case c4 => omega
    case c5 => simp; omega
    intro v' w1 ho1 hg1 _
    have HO2 : Hid (w1.ownsRow w.heap.size 135 3 v' (fs ++ [t.edges[k]]).length ((fs ++ [t.edges[k]]).flatMap encE)) := by
     unfold Hid
     rw [List.length_append, List.flatMap_append, List.flatMap_singleton]
     exact ho1
    have HB2 : Hid (Below w.heap.size w w1) := (HBA.out.alloc (by simp; omega) _).grown hg1 (by simp; omega) (fun b e => (HO.out.lt b e).1)
    clear ho1 hg1
    go_wp2_with fail
    go_roundw
    case rel => exact ⟨k + 1, by omega, by go_num, HB2.out, by rw [HL.out]; exact HO2.out⟩
    case measure => simp [intOf]; omega
  ·clear hrow
   go_wp2_with fail
   go_ret
   obtain rfl : k = t.edges.length := by omega
   exact ⟨_, rfl, HBL.out, by unfold outOf; have := HO.out; rw [List.take_length] at this; exact this⟩

end Go.Proofs.YtpoleaekcjjedaaGreatDoor

namespace Go.Proofs.YtpoleaekcjjedaaGreatDoor
open Go Go.RowKit

theorem CloneS_own (lo : Nat) (v : Value) (xs : List ByteArray) (w : World) (hv : SliceK 1 encS lo w v xs) (hz : xs.length ≤ 1048576) :
  Calls Tryz.prog 189 #[v] w fun e w' => ∃ v', e = .returned v' ∧ w'.ownsRow w.heap.size 9 1 v' xs.length (xs.map Value.string) ∧ Below w.heap.size w w' := by
 obtain ⟨a, c, rfl, hn, hc, hrow⟩ := hv
 cases a with
 | none =>
  have h0 : xs.length = 0 := by
   rcases hrow with h | ⟨b, o, h, -⟩
   ·exact h
   ·cases h
  have hx : xs = [] := List.eq_nil_of_length_eq_zero h0
  subst hx
  refine (Tryz.slices_Clone_string_nil _ _ w).mono ?_
  rintro e w' ⟨rfl, rfl⟩
  exact ⟨_, rfl, World.ownsRow_nil _ _ _ _, Below.refl _ _⟩
 | some a =>
  rcases hrow with h0 | ⟨b, o, h, -, hb, hcell⟩
  ·have hx : xs = [] := List.eq_nil_of_length_eq_zero h0
   subst hx
   refine (Tryz.slices_Clone_string_zero a c w).mono ?_
   rintro e w' ⟨v', rfl, ho, -, hb⟩
   exact ⟨v', rfl, ho, hb⟩
  ·cases h
   refine (Tryz.slices_Clone_string b o xs.length c xs w (Nat.le_refl _) (by omega) (fun j hj => ?_)).mono ?_
   ·have := hcell j hj 0 (by omega)
    rw [List.getD_eq_getElem?_getD, List.getElem?_eq_getElem hj]
    simpa [encS] using this
   ·rintro e w' ⟨v', rfl, ho, -, hb2⟩
    rw [List.take_length] at ho
    exact ⟨v', rfl, ho, hb2⟩

end Go.Proofs.YtpoleaekcjjedaaGreatDoor

namespace Go.Proofs.YtpoleaekcjjedaaGreatDoor
open Go Go.RowKit

theorem info_strI : (Tryz.prog.info? 9).map (fun i => (i.zero, i.size, i.bytes)) = some (some (.string ⟨#[]⟩), 1, 16) := by kernel_rfl
def MadeTxI (xs : List ByteArray) (w : World) (e : Ending) (w' : World) : Prop := ∃ v, e = .returned v ∧ Below w.heap.size w w' ∧ OwnStrs w.heap.size w' v xs

set_option maxRecDepth 100000 in
set_option maxHeartbeats 4000000 in
theorem readyLabels_any (lo : Nat) (t : Lts) (lv ev : Value) (s : Int) (w : World) (hv : Valid t) (hl : SliceK 1 encS lo w lv t.labels) (he : SliceK 3 encE lo w ev t.edges) :
  Calls Tryz.prog 145 #[.agg #[.int .i64 t.states, .int .i64 t.initial, lv, ev], .int .i64 s] w (MadeTxI (rdy t s) w) := by
 obtain ⟨tb, htb⟩ : ∃ tb, tb = w.heap.size := ⟨_, rfl⟩
 obtain ⟨wA, hwA⟩ : ∃ wA, wA = w.alloc (.cells #[.int .i64 t.states, .int .i64 t.initial, lv, ev] 31) := ⟨_, rfl⟩
 have hbA : Below w.heap.size w wA := by rw [hwA]; exact (Below.refl _ _).alloc (Nat.le_refl _) _
 have hT : Blk wA tb [.int .i64 t.states, .int .i64 t.initial, lv, ev] 31 := by rw [hwA, htb]; exact Blk.new w _ _
 have HO := Lib.hid (out_any lo t lv ev s wA (by have := hv.most; omega) (he.below hbA))
 have HV := Lib.hid hv
 have HT := Lib.hid hT
 obtain ⟨al, cl, rfl, hlc, -, hlrow⟩ := hl.below hbA
 have hL1 := hv.labels.pos
 obtain ⟨bl, ol, rfl, hblw, hcl⟩ : ∃ bl ol, al = some ⟨bl, ol, none⟩ ∧ bl < wA.heap.size ∧ ∀ i (h : i < t.labels.length), wA.cell? ⟨bl, ol + i, none⟩ = some (.string t.labels[i]) := by
  rcases hlrow with h | ⟨bl, ol, h1, -, h3, h4⟩
  ·omega
  ·exact ⟨bl, ol, h1, h3, fun i hi => by have := h4 i hi 0 (by omega); simpa [encS] using this⟩
 obtain ⟨LN, hLN⟩ : ∃ LN, LN = t.labels.length := ⟨_, rfl⟩
 rw [← hLN] at HT HO hwA hlc hL1 ⊢
 have HLN := Lib.hid hLN
 have HCL := Lib.hid hcl
 have HBA := Lib.hid hbA
 have HWA := Lib.hid hwA
 have HTB := Lib.hid htb
 have htl : tb < wA.heap.size := hT.lt
 obtain ⟨i3, hi3, hz30, hz31, hz32⟩ := info_parts info_strI
 clear hv hl he hwA hbA hT htb hLN hcl hlrow
 go_enter Tryz.func145, Tryz.ntmps145
 go_wp2_with fail
 rw [← HWA.out]
 try rw [← HTB.out]
 refine Calls.mono HO.out ?_
 rintro e w1 ⟨v1, rfl, hb1, ho1⟩
 obtain ⟨oa, oc, rfl, -, -⟩ := owns_slice ho1
 have hom : (outOf t s).length ≤ 300 := Nat.le_trans (List.length_filter_le _ _) HV.out.most
 have hsE : SliceK 3 encE wA.heap.size w1 (.slice oa (outOf t s).length oc) (outOf t s) := SliceK.of_owns (enc := encE) (e := 135) encE_len rfl ho1
 obtain ⟨a9, c9, h9, -, -, hrowE⟩ := hsE
 simp only [Value.slice.injEq] at h9
 obtain ⟨rfl, -, rfl⟩ := h9
 obtain ⟨os, hos⟩ : ∃ os, os = outOf t s := ⟨_, rfl⟩
 have HOK : Hid (∀ e ∈ os, EdgeOk t e) := by unfold Hid; rw [hos]; exact outOf_ok HV.out s
 rw [← hos] at hrowE hom ⊢
 obtain ⟨ON, hON⟩ : ∃ ON, ON = os.length := ⟨_, rfl⟩
 rw [← hON] at hom ⊢
 have HROW := Lib.hid hrowE
 have HON := Lib.hid hON
 have HOS := Lib.hid hos
 have HB1 := Lib.hid hb1
 have hs1 := hb1.size
 clear hb1 ho1 hrowE hON hos HO
 go_wp2
 go_loopw [5, 12] (fun v5 v12 wr => ∃ k : Nat, k ≤ ON ∧ v12 = .int .i64 k ∧ Below w1.heap.size w1 wr ∧ wr.ownsRow w1.heap.size 9 1 v5 k (((os.take k).map (labAt t)).map Value.string)) (fun _ v12 _ => ON - (intOf v12).toNat)
 case atStart => exact ⟨0, Nat.zero_le _, rfl, Below.refl _ _, ⟨rfl, .inl ⟨rfl, rfl⟩⟩⟩
 case round =>
  obtain ⟨k, hk, rfl, hbl, ho⟩ := hrel
  have HBL := Lib.hid hbl
  have HOW := Lib.hid ho
  have hsz := hbl.size
  obtain ⟨va, vc, hv5, -, -⟩ := owns_slice ho
  subst hv5
  by_cases hlt : k < ON
  ·have hlt2 : k < os.length := by rw [← HON.out]; exact hlt
   obtain ⟨be, oe, rfl, -, hbe, e1, e2, e3⟩ := (HROW.out.below hbl).edge hlt2
   have hok := HOK.out _ (List.getElem_mem hlt2)
   have HNX : Hid (((os.take (k + 1)).map (labAt t)).map Value.string = ((os.take k).map (labAt t)).map Value.string ++ [.string (labAt t os[k])]) := by
    unfold Hid
    rw [List.take_succ_eq_append_getElem hlt2, List.map_append, List.map_append]
    rfl
   obtain ⟨l, hl⟩ : ∃ l, l = labAt t os[k] := ⟨_, rfl⟩
   rw [← hl] at HNX
   obtain ⟨ts, hts⟩ : ∃ ts, ts = ((os.take k).map (labAt t)).map Value.string := ⟨_, rfl⟩
   rw [← hts] at HNX ho
   obtain ⟨x, hx⟩ : ∃ x, x = os[k] := ⟨_, rfl⟩
   rw [← hx] at e1 e2 e3 hl hok
   obtain ⟨m, hm⟩ : ∃ m : Nat, (m : Int) = x.lab := ⟨x.lab.toNat, by have := hok.l0; omega⟩
   have hmt : x.lab.toNat = m := by omega
   have hmL2 : m < t.labels.length := by have := hok.l1; omega
   have hmL : m < LN := by have := HLN.out; omega
   have hlm : l = t.labels[m] := by
    rw [hl]
    unfold labAt
    rw [hmt, List.getD_eq_getElem?_getD, List.getElem?_eq_getElem hmL2]
    rfl
   have hcm : wA.cell? ⟨bl, ol + m, none⟩ = some (.string l) := by rw [hlm]; exact HCL.out m hmL2
   rw [← hm] at e2
   obtain ⟨xs, hxs⟩ : ∃ xs, xs = x.src := ⟨_, rfl⟩
   obtain ⟨xd, hxd⟩ : ∃ xd, xd = x.dst := ⟨_, rfl⟩
   rw [← hxs] at e1
   rw [← hxd] at e3
   have hbAr : Below wA.heap.size wA wr := HB1.out.trans (hbl.mono hs1)
   obtain ⟨wD, hwD⟩ : ∃ wD, wD = wr.alloc (.cells #[.int .i64 xs, .int .i64 m, .int .i64 xd] 135) := ⟨_, rfl⟩
   have hbD : Below wA.heap.size wA wD := by rw [hwD]; exact hbAr.alloc (by have := hbAr.size; omega) _
   have t2 := keeps hbD htl (HT.out.cell 2 rfl)
   have cm := keeps hbD hblw hcm
   have HD1 : Hid (Below w1.heap.size w1 (wr.alloc (.cells #[.int .i64 xs, .int .i64 m, .int .i64 xd] 135))) := hbl.alloc hsz _
   have HOD : Hid ((wr.alloc (.cells #[.int .i64 xs, .int .i64 m, .int .i64 xd] 135)).ownsRow w1.heap.size 9 1 (.slice va k vc) k ts) := ho.alloc _
   rw [hwD] at t2 cm
   have htlr : tb < wr.heap.size := by have := hbAr.size; omega
   have hblr : bl < wr.heap.size := by have := hbAr.size; omega
   clear hts HOW
   clear hbl ho hok hl hlm hx hm hmt hmL2 hcm hxs hxd hbAr hwD hbD
   go_wp2_with (at_builtin; refine wpList_append_own _ rfl _ _ 22 rfl w1.heap.size 9 i3 (.string ⟨#[]⟩) 1 16 Tryz.underlying22 hi3 hz30 hz31 hz32 rfl (by decide) _ k _ rfl (HOD.out.alloc _) ⟨wr.heap.size + 1, 0, none⟩ 1 1 [.string l] rfl rfl ?c1 ?c2 ?c3 ?c4 ?c5 ?_)
   case c1 => exact World.news_of_block (cs := #[.string l]) (t := 9) (fr := (0, 0)) (by have h := heap_alloc_new (wr.alloc (.cells #[.int .i64 xs, .int .i64 m, .int .i64 xd] 135)) (.cells #[.string l] 9); rw [World.size_alloc] at h; exact h)
   case c2 => intro u hu; simp at hu; subst hu; rfl
   case c3 => simp [maxLen]; omega
   case c4 => omega
   case c5 => simp; omega
   intro v7 w7 ho7 hg7 _
   have HB7 : Hid (Below w1.heap.size w1 w7) := (HD1.out.alloc HD1.out.size _).grown hg7 (by simp; omega) (fun b e => (HOD.out.lt b e).1)
   have HO7 : Hid (w7.ownsRow w1.heap.size 9 1 v7 (k + 1) (((os.take (k + 1)).map (labAt t)).map Value.string)) := by unfold Hid; rw [HNX.out]; exact ho7
   clear ho7 hg7 t2 cm
   go_wp2
   go_roundw
   case rel => exact ⟨k + 1, by omega, by go_num, HB7.out, HO7.out⟩
   case measure => simp [intOf]; omega
  ·obtain rfl : k = ON := by omega
   have hall : os.take k = os := List.take_of_length_le (by have := HON.out; omega)
   rw [hall] at HOW
   have hln : (os.map (labAt t)).length = k := by rw [List.length_map]; exact HON.out.symm
   have HS1 := Lib.hid (SortL_own w1.heap.size (.slice va k vc) (os.map (labAt t)) wr (by rw [hln]; exact HOW.out) (by omega))
   have HBWr := Lib.hid (HB1.out.trans (hbl.mono hs1))
   have HLN2 := Lib.hid hln
   clear hbl ho hall hln
   go_wp2_with fail
   refine Calls.mono HS1.out ?_
   rintro e w8 ⟨rfl, ho8, hg8⟩
   have HB8 := Lib.hid (HBWr.out.grown hg8 (by exact HBWr.out.size) (fun b e => by have := (HOW.out.lt b e).1; omega))
   have HC8 := Lib.hid (CompactL_own w1.heap.size (.slice va k vc) (os.map (labAt t)) w8 ho8)
   have HLT := Lib.hid (fun b e => (ho8.lt b e).1)
   clear ho8 hg8 HS1
   go_wp2_with fail
   refine Calls.mono HC8.out ?_
   rintro e w9 ⟨v9, rfl, ho9, hg9⟩
   have HB9 := Lib.hid (HB8.out.grown hg9 HB8.out.size (fun b e => by have := HLT.out b e; omega))
   have HO9 := Lib.hid ho9
   clear ho9 hg9 HC8
   go_wp2_with fail
   go_ret
   refine ⟨_, rfl, HBA.out.trans (HB9.out.mono HBA.out.size), ?_⟩
   have h := own_lower HO9.out (Nat.le_trans HBA.out.size hs1)
   rw [HOS.out] at h
   exact h

end Go.Proofs.YtpoleaekcjjedaaGreatDoor

namespace Go.Proofs.YtpoleaekcjjedaaGreatDoor
open Go Go.RowKit

set_option maxRecDepth 100000 in
theorem isStable_any (lo : Nat) (t : Lts) (lv ev : Value) (s : Int) (w : World) (hv : Valid t) (hl : SliceK 1 encS lo w lv t.labels) (he : SliceK 3 encE lo w ev t.edges) :
  Calls Tryz.prog 232 #[.agg #[.int .i64 t.states, .int .i64 t.initial, lv, ev], .int .i64 s] w fun e w' => e = .returned (.bool (stableB t s)) ∧ Below w.heap.size w w' := by
 obtain ⟨wA, hwA⟩ : ∃ wA, wA = w.alloc (.cells #[.int .i64 t.states, .int .i64 t.initial, lv, ev] 31) := ⟨_, rfl⟩
 have hbA : Below w.heap.size w wA := by rw [hwA]; exact (Below.refl _ _).alloc (Nat.le_refl _) _
 have HR := Lib.hid (readyLabels_any lo t lv ev s wA hv (hl.below hbA) (he.below hbA))
 have HT := Lib.hid (tau_rdy hv s)
 have HBA := Lib.hid hbA
 have HWA := Lib.hid hwA
 clear hv hl he hbA hwA
 go_enter Tryz.func232, Tryz.ntmps232
 go_wp2_with fail
 rw [← HWA.out]
 refine Calls.mono HR.out ?_
 rintro e w1 ⟨v1, rfl, hb1, ho1⟩
 have HC := Lib.hid (Contains_strs wA.heap.size v1 tauT (rdy t s) w1 ho1.at)
 have hc : ((rdy t s).any fun y => y.toList == tauT.toList) = !stableB t s := HT.out
 rw [hc] at HC
 have HB1 := Lib.hid (HBA.out.trans (hb1.mono HBA.out.size))
 clear hb1 ho1 hc HR
 go_wp2_with fail
 refine Calls.mono HC.out ?_
 rintro e w2 ⟨rfl, rfl⟩
 go_wp2
 go_ret
 exact ⟨ret_bool (by simp), HB1.out⟩

set_option maxRecDepth 100000 in
theorem stable1_any (lo tb : Nat) (t : Lts) (lv ev : Value) (s : Int) (w : World) (hv : Valid t) (hl : SliceK 1 encS lo w lv t.labels) (he : SliceK 3 encE lo w ev t.edges) (ht : Blk w tb [.int .i64 t.states, .int .i64 t.initial, lv, ev] 31) :
  Calls Tryz.prog 231 #[.int .i64 s, .pointer (some ⟨tb, 0, none⟩)] w fun e w' => e = .returned (.bool (!stableB t s)) ∧ Below w.heap.size w w' := by
 have HS := Lib.hid (isStable_any lo t lv ev s w hv hl he)
 have x0 := ht.cell 0 rfl
 have x1 := ht.cell 1 rfl
 have x2 := ht.cell 2 rfl
 have x3 := ht.cell 3 rfl
 clear hv hl he ht
 go_enter Tryz.func231, Tryz.ntmps231
 go_wp2_with fail
 refine Calls.mono HS.out ?_
 rintro e w1 ⟨rfl, hb1⟩
 have HB1 := Lib.hid hb1
 clear hb1 HS
 go_wp2
 go_ret
 exact ⟨rfl, HB1.out⟩

set_option maxRecDepth 100000 in
theorem stable_any (lo lo2 : Nat) (t : Lts) (lv ev sv : Value) (S : List Int) (w : World) (hv : Valid t) (hl : SliceK 1 encS lo w lv t.labels) (he : SliceK 3 encE lo w ev t.edges) (hs : SliceK 1 encI lo2 w sv S) (hz : S.length ≤ 1048576) :
  Calls Tryz.prog 156 #[.agg #[.int .i64 t.states, .int .i64 t.initial, lv, ev], sv] w (MadeNums (stabs t S) w) := by
 obtain ⟨tb, htb⟩ : ∃ tb, tb = w.heap.size := ⟨_, rfl⟩
 obtain ⟨wA, hwA⟩ : ∃ wA, wA = w.alloc (.cells #[.int .i64 t.states, .int .i64 t.initial, lv, ev] 31) := ⟨_, rfl⟩
 have hbA : Below w.heap.size w wA := by rw [hwA]; exact (Below.refl _ _).alloc (Nat.le_refl _) _
 have hT : Blk wA tb [.int .i64 t.states, .int .i64 t.initial, lv, ev] 31 := by rw [hwA, htb]; exact Blk.new w _ _
 have HCL := Lib.hid (Clone_own lo2 sv S wA (hs.below hbA) hz)
 have HV := Lib.hid hv
 have HL := Lib.hid (hl.below hbA)
 have HE := Lib.hid (he.below hbA)
 have HT := Lib.hid hT
 have HBA := Lib.hid hbA
 have HWA := Lib.hid hwA
 have HTB := Lib.hid htb
 clear hv hl he hs hbA hT hwA htb
 go_enter Tryz.func156, Tryz.ntmps156
 go_wp2_with fail
 rw [← HWA.out]
 try rw [← HTB.out]
 refine Calls.mono HCL.out ?_
 rintro e w1 ⟨v1, rfl, ho1, hb1⟩
 have HDF := Lib.hid (DeleteFuncI wA.heap.size v1 S 231 #[.pointer (some ⟨tb, 0, none⟩)] (fun x => !stableB t x) wA w1 ho1 hb1 hb1.size (fun args w => by kernel_rfl) fun w' hb x _ => stable1_any lo tb t lv ev x w' HV.out (HL.out.below hb) (HE.out.below hb) (HT.out.below hb))
 have hf : (S.filter fun x => !(!stableB t x)) = stabs t S := by unfold stabs; congr 1; funext x; exact Bool.not_not _
 rw [hf] at HDF
 clear ho1 hb1 hf HCL
 go_wp2_with fail
 refine Calls.mono HDF.out ?_
 rintro e w2 ⟨v2, rfl, hb2, ho2⟩
 have HB2 := Lib.hid (HBA.out.trans (hb2.mono HBA.out.size))
 have HO2 := Lib.hid (own_lower ho2 HBA.out.size)
 clear hb2 ho2 HDF
 go_wp2
 go_ret
 exact ⟨_, rfl, HB2.out, HO2.out⟩

set_option maxRecDepth 100000 in
theorem lacking1_any (lo ob : Nat) (ov : Value) (other : List ByteArray) (s : ByteArray) (w : World) (ho : SliceK 1 encS lo w ov other) (hb : Blk w ob [ov] 22) :
  Calls Tryz.prog 216 #[.string s, .pointer (some ⟨ob, 0, none⟩)] w fun e w' => e = .returned (.bool (inT other s)) ∧ Below w.heap.size w w' := by
 have HC := Lib.hid (Contains_strs lo ov s other w ho)
 have x0 := hb.cell 0 rfl
 clear ho hb
 go_enter Tryz.func216, Tryz.ntmps216
 go_wp2_with fail
 refine Calls.mono HC.out ?_
 rintro e w1 ⟨rfl, rfl⟩
 go_wp2
 go_ret
 exact ⟨rfl, Below.refl _ _⟩
set_option maxRecDepth 100000 in
theorem lacking_any (lo lo2 : Nat) (sv ov : Value) (set other : List ByteArray) (w : World) (hs : SliceK 1 encS lo w sv set) (ho : SliceK 1 encS lo2 w ov other) (hz : set.length ≤ 1048576) :
  Calls Tryz.prog 144 #[sv, ov] w (MadeTxI (lackL set other) w) := by
 obtain ⟨ob, hob⟩ : ∃ ob, ob = w.heap.size := ⟨_, rfl⟩
 obtain ⟨wA, hwA⟩ : ∃ wA, wA = w.alloc (.cells #[ov] 22) := ⟨_, rfl⟩
 have hbA : Below w.heap.size w wA := by rw [hwA]; exact (Below.refl _ _).alloc (Nat.le_refl _) _
 have hX : Blk wA ob [ov] 22 := by rw [hwA, hob]; exact Blk.new w _ _
 have HCL := Lib.hid (CloneS_own lo sv set wA (hs.below hbA) hz)
 have HOV := Lib.hid (ho.below hbA)
 have HX := Lib.hid hX
 have HBA := Lib.hid hbA
 have HWA := Lib.hid hwA
 have HOB := Lib.hid hob
 obtain ⟨oa, oc, rfl, -, -, -⟩ := ho
 clear hs hbA hX hwA hob
 go_enter Tryz.func144, Tryz.ntmps144
 go_wp2_with fail
 rw [← HWA.out]
 try rw [← HOB.out]
 refine Calls.mono HCL.out ?_
 rintro e w1 ⟨v1, rfl, ho1, hb1⟩
 have HDF := Lib.hid (DeleteFuncS wA.heap.size v1 set 216 #[.pointer (some ⟨ob, 0, none⟩)] (inT other) wA w1 ho1 hb1 hb1.size (fun args w => by kernel_rfl) fun w' hb x _ => lacking1_any lo2 ob _ other x w' (HOV.out.below hb) (HX.out.below hb))
 clear ho1 hb1 HCL
 go_wp2_with fail
 refine Calls.mono HDF.out ?_
 rintro e w2 ⟨v2, rfl, hb2, ho2⟩
 have HB2 := Lib.hid (HBA.out.trans (hb2.mono HBA.out.size))
 have HO2 := Lib.hid (own_lower ho2 HBA.out.size)
 clear hb2 ho2 HDF
 go_wp2
 go_ret
 exact ⟨_, rfl, HB2.out, HO2.out⟩

/-- A state refuses a set: no label of it is ready. -/
def refusesAll (t : Lts) (set : List ByteArray) (k : Int) : Bool := decide ((lackL set (rdy t k)).length = set.length)
theorem refusesAll_one (t : Lts) (l : ByteArray) (k : Int) : refusesAll t [l] k = !inT (rdy t k) l := by
 unfold refusesAll lackL
 rw [List.filter_cons, List.filter_nil]
 cases inT (rdy t k) l <;> simp

set_option maxRecDepth 100000 in
set_option maxHeartbeats 1000000 in
theorem refuse1_any (lo lo2 tb sb : Nat) (t : Lts) (lv ev sv : Value) (set : List ByteArray) (k : Int) (w : World) (hv : Valid t) (hl : SliceK 1 encS lo w lv t.labels) (he : SliceK 3 encE lo w ev t.edges) (hs : SliceK 1 encS lo2 w sv set) (hz : set.length ≤ 1000)
  (ht : Blk w tb [.int .i64 t.states, .int .i64 t.initial, lv, ev] 31) (hsb : Blk w sb [sv] 22) :
  Calls Tryz.prog 205 #[.int .i64 k, .pointer (some ⟨sb, 0, none⟩), .pointer (some ⟨tb, 0, none⟩)] w fun e w' => e = .returned (.bool (refusesAll t set k)) ∧ Below w.heap.size w w' := by
 obtain ⟨sa, sc, rfl, -, -, -⟩ := id hs
 have HL := Lib.hid hl
 have HE := Lib.hid he
 have HV := Lib.hid hv
 have HSV := Lib.hid hs
 obtain ⟨SN, hSN⟩ : ∃ SN, SN = set.length := ⟨_, rfl⟩
 have HSN := Lib.hid hSN
 rw [← hSN] at hsb hz HSV
 have HSB := Lib.hid hsb
 have HTB := Lib.hid ht
 have hD : Below w.heap.size w w.drew := (Below.refl _ _).drew
 have HSW : Hid (∀ w', Below w.heap.size w w' → w'.cell? ⟨sb, 0, none⟩ = some (.slice sa SN sc) ∧ w'.cell? ⟨tb, 0, none⟩ = some (.int .i64 t.states) ∧ w'.cell? ⟨tb, 1, none⟩ = some (.int .i64 t.initial) ∧ w'.cell? ⟨tb, 2, none⟩ = some lv ∧ w'.cell? ⟨tb, 3, none⟩ = some ev) := fun w' hb =>
  ⟨(HSB.out.below hb).cell 0 rfl, (HTB.out.below hb).cell 0 rfl, (HTB.out.below hb).cell 1 rfl, (HTB.out.below hb).cell 2 rfl, (HTB.out.below hb).cell 3 rfl⟩
 have HD := Lib.hid hD
 have HRL := Lib.hid (readyLabels_any lo t lv ev k w.drew hv (hl.below hD) (he.below hD))
 have HLK : Hid (∀ w' v, Below w.heap.size w w' → SliceK 1 encS w.drew.heap.size w' v (rdy t k) → Calls Tryz.prog 144 #[.slice sa SN sc, v] w' (MadeTxI (lackL set (rdy t k)) w')) := fun w' v hb h => lacking_any lo2 _ _ v set (rdy t k) w' (HSV.out.below hb) h (by rw [← HSN.out]; omega)
 have hle : (lackL set (rdy t k)).length ≤ SN := by rw [hSN]; exact List.length_filter_le _ _
 have HRF : Hid (refusesAll t set k = (((lackL set (rdy t k)).length : Int) == (SN : Int))) := by
  unfold Hid refusesAll
  rw [← HSN.out, Bool.eq_iff_iff, decide_eq_true_eq, beq_iff_eq]
  omega
 obtain ⟨KN, hKN⟩ : ∃ KN, KN = (lackL set (rdy t k)).length := ⟨_, rfl⟩
 rw [← hKN] at HRF hle
 have HKN := Lib.hid hKN
 clear hv hl he hs ht hsb hD hSN hKN
 go_enter Tryz.func205, Tryz.ntmps205
 go_wp2
 go_region_held3 (fun w' => w'.cell? ⟨sb, 0, none⟩ = some (.slice sa SN sc) ∧ w'.cell? ⟨tb, 0, none⟩ = some (.int .i64 t.states) ∧ w'.cell? ⟨tb, 1, none⟩ = some (.int .i64 t.initial) ∧ w'.cell? ⟨tb, 2, none⟩ = some lv ∧ w'.cell? ⟨tb, 3, none⟩ = some ev)
  (first
   | exact HSW.out _ HD.out
   | exact HSW.out _ hq1
   | exact HSW.out _ hq2
   | go_keep)
  (first
   | (go_at_call 145; refine Calls.mono HRL.out ?_; rintro e w1 ⟨v1, rfl, hb1, ho1⟩; have hq1 : Below w.heap.size w w1 := HD.out.trans (hb1.mono (by simp)))
   | (go_at_call 144; refine Calls.mono (HLK.out _ _ hq1 ho1.at) ?_; rintro e w2 ⟨v2, rfl, hb2, ho2⟩; obtain ⟨a2, c2, rfl, -, -⟩ := owns_slice ho2; rw [← HKN.out]; have hq2 : Below w.heap.size w w2 := hq1.trans (hb2.mono hq1.size))
   | fail)
 all_goals (
  have HQ := Lib.hid hq2
  clear hb1 ho1 hq1 hb2 ho2 hq2
  go_wp2
  go_ret
  exact ⟨ret_bool HRF.out.symm, HQ.out⟩)

set_option maxRecDepth 100000 in
set_option maxHeartbeats 1000000 in
theorem refuse_any (lo lo2 lo3 : Nat) (t : Lts) (lv ev sv tv : Value) (S : List Int) (set : List ByteArray) (w : World) (hv : Valid t) (hl : SliceK 1 encS lo w lv t.labels) (he : SliceK 3 encE lo w ev t.edges) (hs : SliceK 1 encI lo2 w sv S) (ht : SliceK 1 encS lo3 w tv set) (hz : S.length ≤ 1048576) (hz2 : set.length ≤ 1000) :
  Calls Tryz.prog 135 #[.agg #[.int .i64 t.states, .int .i64 t.initial, lv, ev], sv, tv] w fun e w' => e = .returned (.bool ((stabs t S).any (refusesAll t set))) ∧ Below w.heap.size w w' := by
 obtain ⟨tb, htb⟩ : ∃ tb, tb = w.heap.size := ⟨_, rfl⟩
 obtain ⟨wA, hwA⟩ : ∃ wA, wA = (w.alloc (.cells #[.int .i64 t.states, .int .i64 t.initial, lv, ev] 31)).alloc (.cells #[tv] 22) := ⟨_, rfl⟩
 have hbA : Below w.heap.size w wA := by rw [hwA]; exact ((Below.refl _ _).alloc (Nat.le_refl _) _).alloc (by simp) _
 have hT : Blk wA tb [.int .i64 t.states, .int .i64 t.initial, lv, ev] 31 := by rw [hwA, htb]; exact (Blk.new w _ _).alloc _
 have hX : Blk wA (tb + 1) [tv] 22 := by
  have h := Blk.new (w.alloc (.cells #[.int .i64 t.states, .int .i64 t.initial, lv, ev] 31)) [tv] 22
  rw [World.size_alloc, ← htb] at h
  rw [hwA]
  exact h
 have HST := Lib.hid (stable_any lo lo2 t lv ev sv S wA hv (hl.below hbA) (he.below hbA) (hs.below hbA) hz)
 have HV := Lib.hid hv
 have HL := Lib.hid (hl.below hbA)
 have HE := Lib.hid (he.below hbA)
 have HTV := Lib.hid (ht.below hbA)
 have HT := Lib.hid hT
 have HX := Lib.hid hX
 have HBA := Lib.hid hbA
 have HWA := Lib.hid hwA
 have HTB := Lib.hid htb
 obtain ⟨xa, xc, rfl, -, -, -⟩ := ht
 clear hv hl he hs hbA hT hX hwA htb
 go_enter Tryz.func135, Tryz.ntmps135
 go_wp2_with fail
 rw [← HWA.out]
 try rw [← HTB.out]
 refine Calls.mono HST.out ?_
 rintro e w1 ⟨v1, rfl, hb1, ho1⟩
 have hs1 : SliceK 1 encI wA.heap.size w1 v1 (stabs t S) := SliceK.of_owns (e := 2) encI_len rfl (by rw [flat_encI]; exact ho1)
 have HCF := Lib.hid (ContainsFuncI wA.heap.size v1 (stabs t S) 205 #[.pointer (some ⟨tb + 1, 0, none⟩), .pointer (some ⟨tb, 0, none⟩)] (refusesAll t set) w1 hs1 (fun args w => by kernel_rfl)
  fun w' hb x _ => refuse1_any lo lo3 tb (tb + 1) t lv ev _ set x w' HV.out (HL.out.below (hb1.trans (hb.mono hb1.size))) (HE.out.below (hb1.trans (hb.mono hb1.size))) (HTV.out.below (hb1.trans (hb.mono hb1.size))) hz2 (HT.out.below (hb1.trans (hb.mono hb1.size))) (HX.out.below (hb1.trans (hb.mono hb1.size))))
 have HB1 := Lib.hid (HBA.out.trans (hb1.mono HBA.out.size))
 clear hb1 ho1 hs1 HST
 go_wp2_with fail
 refine Calls.mono HCF.out ?_
 rintro e w2 ⟨rfl, hb2⟩
 have HB2 := Lib.hid (HB1.out.trans (hb2.mono HB1.out.size))
 clear hb2 HCF
 go_wp2
 go_ret
 exact ⟨rfl, HB2.out⟩

end Go.Proofs.YtpoleaekcjjedaaGreatDoor

namespace Go.Proofs.YtpoleaekcjjedaaGreatDoor
open Go Go.RowKit

theorem within_congr {x x' y y' : List ByteArray} (h : ∀ s, inT x s = inT x' s) (k : ∀ s, inT y s = inT y' s) : withinL x y = withinL x' y' := by
 unfold withinL
 rw [Bool.eq_iff_iff, List.all_eq_true, List.all_eq_true]
 exact ⟨fun p s hs => by rw [← k]; exact p s (inT_mem.1 (by rw [h]; exact inT_mem.2 hs)), fun p s hs => by rw [k]; exact p s (inT_mem.1 (by rw [← h]; exact inT_mem.2 hs))⟩
/-- An offer contains one of some offers. -/
def covB (o : List ByteArray) (list : List (List ByteArray)) : Bool := list.any fun x => withinL x o
theorem cov_exc {a b : Lts} (hva : Valid a) (hvb : Valid b) (S : List Int) {k : Int} (hk : stableB b k = true) : covB (offS b k) (offersS a S) = !excB a b S k := by
 unfold covB offersS excB
 rw [Bool.not_not, List.any_map, Bool.eq_iff_iff, List.any_eq_true, List.any_eq_true]
 constructor
 ·rintro ⟨j, hj, h⟩
  refine ⟨j, hj, ?_⟩
  rw [← within_congr (off_rdy hva (List.mem_filter.1 hj).2) (off_rdy hvb hk)]
  exact h
 ·rintro ⟨j, hj, h⟩
  refine ⟨j, hj, ?_⟩
  show withinL (offS a j) (offS b k) = true
  rw [within_congr (off_rdy hva (List.mem_filter.1 hj).2) (off_rdy hvb hk)]
  exact h
theorem lack_congr {L x y : List ByteArray} (h : ∀ s, inT x s = inT y s) : lackL L x = lackL L y := by
 unfold lackL
 congr 1
 funext s
 rw [h]
theorem offers_at {b : Lts} {T : List Int} {k : Nat} (hk : k < (offersS b T).length) : ∃ j, ∃ h : k < (stabs b T).length, (stabs b T)[k] = j ∧ (offersS b T)[k] = offS b j ∧ stableB b j = true := by
 have h : k < (stabs b T).length := by unfold offersS at hk; rwa [List.length_map] at hk
 refine ⟨_, h, rfl, ?_, ?_⟩
 ·simp only [offersS, List.getElem_map]
 ·exact (List.mem_filter.1 (List.getElem_mem h)).2
theorem exc_at {a b : Lts} (hva : Valid a) (hvb : Valid b) {S T : List Int} (hT : ∀ x ∈ T, 0 ≤ x) {k : Nat} (hk : k < (offersS b T).length) (hno : ∀ j (h : j < (offersS b T).length), j < k → covB (offersS b T)[j] (offersS a S) = true)
  (hb : covB (offersS b T)[k] (offersS a S) = false) : 0 ≤ excL a b S T ∧ ∀ L, lackL L (offersS b T)[k] = lackL L (rdy b (excL a b S T)) := by
 obtain ⟨j, hj, hje, ho, hs⟩ := offers_at hk
 have hf : (stabs b T).find? (excB a b S) = some (stabs b T)[k] := by
  refine find_at hj (fun i hi hik => ?_) ?_
  ·obtain ⟨j2, hj2, hje2, ho2, hs2⟩ := offers_at (b := b) (T := T) (k := i) (by unfold offersS; rw [List.length_map]; exact hi)
   have h := hno i (by unfold offersS; rw [List.length_map]; exact hi) hik
   rw [ho2, cov_exc hva hvb S hs2] at h
   rw [hje2]
   simpa using h
  ·rw [ho, cov_exc hva hvb S hs] at hb
   rw [hje]
   simpa using hb
 have he : excL a b S T = j := by unfold excL; rw [hf, Option.getD_some, hje]
 refine ⟨?_, fun L => ?_⟩
 ·rw [he, ← hje]; exact hT _ (List.mem_filter.1 (List.getElem_mem hj)).1
 ·rw [he, ho]; exact lack_congr (off_rdy hvb hs)
theorem exc_no {a b : Lts} (hva : Valid a) (hvb : Valid b) {S T : List Int} (hT : ∀ x ∈ T, 0 ≤ x) (hno : ∀ j (h : j < (offersS b T).length), covB (offersS b T)[j] (offersS a S) = true) : ¬ 0 ≤ excL a b S T := by
 rw [excL_iff hT]
 rintro ⟨x, hx, he⟩
 obtain ⟨i, hi, rfl⟩ := List.mem_iff_getElem.1 hx
 obtain ⟨j2, hj2, hje2, ho2, hs2⟩ := offers_at (b := b) (T := T) (k := i) (by unfold offersS; rw [List.length_map]; exact hi)
 have h := hno i (by unfold offersS; rw [List.length_map]; exact hi)
 rw [ho2, cov_exc hva hvb S hs2, ← hje2, he] at h
 cases h
theorem setOf_in {t : Lts} {st : DNet} (hv : Valid t) (h : DOk t st) {q : Int} (hq : q < (dSys t st).states) : ∀ x ∈ setOf st q, 0 ≤ x ∧ x < t.states := by
 by_cases h0 : q < 0
 ·rw [setOf_neg h0]; intro x hx; cases hx
 ·have hq2 : q.toNat < st.rows.length := by have : q < (st.rows.length : Int) := hq; omega
  have e0 : q = ((q.toNat : Nat) : Int) := by omega
  rw [e0, setOf_at (List.getElem?_eq_getElem hq2)]
  exact ((dok_good hv h).rows _ (List.getElem_mem hq2)).1
theorem setOf_len {t : Lts} {st : DNet} (hv : Valid t) (h : DOk t st) {q : Int} (hq : q < (dSys t st).states) : (setOf st q).length ≤ 40 := by
 by_cases h0 : q < 0
 ·rw [setOf_neg h0]; simp
 ·have hq2 : q.toNat < st.rows.length := by have : q < (st.rows.length : Int) := hq; omega
  have e0 : q = ((q.toNat : Nat) : Int) := by omega
  rw [e0, setOf_at (List.getElem?_eq_getElem hq2)]
  obtain ⟨h1, h2, h3⟩ := (dok_good hv h).rows _ (List.getElem_mem hq2)
  refine few_states ?_ h1 hv.st1
  rw [List.nodup_iff_pairwise_ne]
  exact h2.imp fun h => by omega

/-- What the reference passes over. -/
def deadR (p : Int × Int) : Prop := p.2 < 0
theorem deadR_step (x y : Lts) (L : List ByteArray) (s : Int × Int) (a : Nat) (h : deadR s) : deadR (goBoth x y L s a) := by
 show goTo y s.2 _ < 0
 rw [goTo_neg h]; decide
theorem badP_live {a b : Lts} {sa sb : DNet} (s : Int × Int) (h : deadR s) : ¬ badP a b sa sb s := fun k => by
 have h1 : s.2 < 0 := h
 have h2 := k.1
 omega
/-- The words met, i of them looked at, of the next one k labels. -/
structure RSt (a b : Lts) (sa sb : DNet) (N : List (List Nat)) (i k : Nat) : Prop where
 nst : NSt ((0 : Int), (0 : Int)) (goBoth (dSys a sa) (dSys b sb) (bothL a b)) ((bothL a b).length - 1) deadR (fun _ => False) N i k
 fine : ∀ (j : Nat) (v : List Nat), (j < i ∨ (j = i ∧ 0 < k)) → N[j]? = some v → ¬ badP a b sa sb (difS (dSys a sa) (dSys b sb) (bothL a b) v)
theorem RSt.start (a b : Lts) (sa sb : DNet) : RSt a b sa sb [[]] 0 0 :=
 ⟨NSt.start (fun h => absurd (show (0 : Int) < 0 from h) (by decide)) (fun h => h), fun j v h _ => by omega⟩
theorem RSt.few {a b : Lts} {sa sb : DNet} {N : List (List Nat)} {i k : Nat} (hx : Valid (dSys a sa)) (hy : Valid (dSys b sb)) (h : RSt a b sa sb N i k) : N.length ≤ 1681 := by
 have hp : ∀ u, (-1 ≤ (difS (dSys a sa) (dSys b sb) (bothL a b) u).1 ∧ (difS (dSys a sa) (dSys b sb) (bothL a b) u).1 < 40) ∧ -1 ≤ (difS (dSys a sa) (dSys b sb) (bothL a b) u).2 ∧ (difS (dSys a sa) (dSys b sb) (bothL a b) u).2 < 40 := fun u => by
  have h2 := difS_range hx hy (bothL a b) u
  have h3 := hx.st1
  have h4 := hy.st1
  exact ⟨⟨h2.1.2, by omega⟩, h2.2.2, by omega⟩
 have h1 : (N.map fun u => pairNo (difS (dSys a sa) (dSys b sb) (bothL a b) u)).Nodup := by
  have hn := h.nst.nodup
  rw [List.nodup_iff_pairwise_ne, List.pairwise_map] at hn ⊢
  refine hn.imp ?_
  intro u v hne e
  have h1 := hp u
  have h2 := hp v
  refine hne ?_
  show difS (dSys a sa) (dSys b sb) (bothL a b) u = difS (dSys a sa) (dSys b sb) (bothL a b) v
  unfold pairNo at e
  have e1 : (difS (dSys a sa) (dSys b sb) (bothL a b) u).1 = (difS (dSys a sa) (dSys b sb) (bothL a b) v).1 := by omega
  have e2 : (difS (dSys a sa) (dSys b sb) (bothL a b) u).2 = (difS (dSys a sa) (dSys b sb) (bothL a b) v).2 := by omega
  exact Prod.ext e1 e2
 have := nodup_lt 1681 _ h1 (fun z hz => by
  obtain ⟨u, hu, rfl⟩ := List.mem_map.1 hz
  have := hp u
  unfold pairNo
  omega)
 rwa [List.length_map] at this
theorem RSt.alive {a b : Lts} {sa sb : DNet} {N : List (List Nat)} {i k : Nat} (h : RSt a b sa sb N i k) {j : Nat} {u : List Nat} (hu : N[j]? = some u) : 0 ≤ (difS (dSys a sa) (dSys b sb) (bothL a b) u).2 := by
 obtain ⟨hj, hju⟩ := List.getElem?_eq_some_iff.1 hu
 have h1 := h.nst.alive u (by rw [← hju]; exact List.getElem_mem _)
 have h2 : ¬ (difS (dSys a sa) (dSys b sb) (bothL a b) u).2 < 0 := h1
 omega
/-- The pair is looked at: it is as it should be. -/
theorem RSt.good {a b : Lts} {sa sb : DNet} {N : List (List Nat)} {i : Nat} (h : RSt a b sa sb N i 0) {u : List Nat} (hu : N[i]? = some u) (hb : ¬ badP a b sa sb (difS (dSys a sa) (dSys b sb) (bothL a b) u)) :
  ∀ (j : Nat) (v : List Nat), (j < i ∨ j = i) → N[j]? = some v → ¬ badP a b sa sb (difS (dSys a sa) (dSys b sb) (bothL a b) v) := fun j v hj hv => by
 rcases hj with hj | rfl
 ·exact h.fine j v (.inl hj) hv
 ·rw [hu] at hv; cases hv; exact hb
theorem RSt.pass {a b : Lts} {sa sb : DNet} {N : List (List Nat)} {i k : Nat} {L : List ByteArray} {u : List Nat} {X Y : Int} (hL : L = bothL a b) (h : RSt a b sa sb N i k) (hg : ¬ badP a b sa sb (difS (dSys a sa) (dSys b sb) (bothL a b) u)) (hu : N[i]? = some u)
  (he : difS (dSys a sa) (dSys b sb) L (k :: u) = (X, Y)) (hd : Y < 0 ∨ ∃ v ∈ N, difS (dSys a sa) (dSys b sb) L v = (X, Y)) : RSt a b sa sb N i (k + 1) := by
 subst hL
 refine ⟨h.nst.pass hu ?_, fun j v hj hv => ?_⟩
 ·rcases hd with hd | ⟨v, hv, e⟩
  ·exact .inl (by show deadR (difS _ _ _ (k :: u)); rw [he]; exact hd)
  ·exact .inr ⟨v, hv, e.trans he.symm⟩
 ·rcases hj with hj | ⟨rfl, -⟩
  ·exact h.fine j v (.inl hj) hv
  ·rw [hu] at hv; cases hv; exact hg
theorem RSt.meet {a b : Lts} {sa sb : DNet} {N : List (List Nat)} {i k : Nat} {L : List ByteArray} {u : List Nat} {X Y : Int} (hL : L = bothL a b) (h : RSt a b sa sb N i k) (hg : ¬ badP a b sa sb (difS (dSys a sa) (dSys b sb) (bothL a b) u)) (hu : N[i]? = some u) (hk : k < L.length - 1)
  (he : difS (dSys a sa) (dSys b sb) L (k :: u) = (X, Y)) (h1 : ¬ Y < 0) (h3 : ¬ ∃ v ∈ N, difS (dSys a sa) (dSys b sb) L v = (X, Y)) : RSt a b sa sb (N ++ [k :: u]) i (k + 1) := by
 subst hL
 have hi := (List.getElem?_eq_some_iff.1 hu).1
 refine ⟨h.nst.meet hu hk ?_ (fun h => h) fun v hv e => h3 ⟨v, hv, ?_⟩, fun j v hj hv => ?_⟩
 ·show ¬ deadR (difS _ _ _ (k :: u)); rw [he]; exact h1
 ·exact (show difS (dSys a sa) (dSys b sb) _ v = difS (dSys a sa) (dSys b sb) _ (k :: u) from e).trans he
 ·rw [List.getElem?_append_left (by omega)] at hv
  rcases hj with hj | ⟨rfl, -⟩
  ·exact h.fine j v (.inl hj) hv
  ·rw [hu] at hv; cases hv; exact hg
theorem RSt.next {a b : Lts} {sa sb : DNet} {N : List (List Nat)} {i k : Nat} (h : RSt a b sa sb N i k) (hk : k = (bothL a b).length - 1) (hg : ∀ u, N[i]? = some u → ¬ badP a b sa sb (difS (dSys a sa) (dSys b sb) (bothL a b) u)) : RSt a b sa sb N (i + 1) 0 := by
 subst hk
 refine ⟨h.nst.next, fun j v hj hv => ?_⟩
 rcases hj with hj | ⟨-, hj⟩
 ·by_cases e : j = i
  ·subst e; exact hg v hv
  ·exact h.fine j v (.inl (by omega)) hv
 ·omega
theorem RSt.least {a b : Lts} {sa sb : DNet} {N : List (List Nat)} {i : Nat} (h : RSt a b sa sb N i 0) {u : List Nat} (hu : N[i]? = some u) (hb : badP a b sa sb (difS (dSys a sa) (dSys b sb) (bothL a b) u)) :
  Least ((0 : Int), (0 : Int)) (goBoth (dSys a sa) (dSys b sb) (bothL a b)) ((bothL a b).length - 1) (badP a b sa sb) u :=
 NSt.look (deadR_step _ _ _) badP_live h.nst hu hb fun j v hj hv => h.fine j v (.inl hj) hv
theorem RSt.none {a b : Lts} {sa sb : DNet} {N : List (List Nat)} {i : Nat} (h : RSt a b sa sb N i 0) (hi : N.length ≤ i) :
  NoWord ((0 : Int), (0 : Int)) (goBoth (dSys a sa) (dSys b sb) (bothL a b)) ((bothL a b).length - 1) (badP a b sa sb) :=
 NSt.lookNone (deadR_step _ _ _) badP_live h.nst hi fun j v hv => h.fine j v (.inl (by have := (List.getElem?_eq_some_iff.1 hv).1; omega)) hv

end Go.Proofs.YtpoleaekcjjedaaGreatDoor
