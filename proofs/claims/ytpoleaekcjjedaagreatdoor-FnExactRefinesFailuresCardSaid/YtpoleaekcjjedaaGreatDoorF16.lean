/-
  The implementation's excess: the first stable state whose offer is not met.
  A system of the call's own: how it lies in memory.
  What a determinization leaves, and what the comparisons of two systems return.
  What both texts of IsDeterminate return.
  What the refinement of both texts, RefinesFailures and EqualFailures return.
  A set of keys in a map whose values are true.
  Maps whose keys are pairs of numbers.
  The library's Concat at two lists of texts.
-/
import Derived.Test.YtpoleaekcjjedaaGreatDoorF15
import Derived.Test.YtpoleaekcjjedaaGreatDoorF1
import Derived.Test.YtpoleaekcjjedaaGreatDoorF10
import Derived.Test.YtpoleaekcjjedaaGreatDoorF11
import Derived.Test.YtpoleaekcjjedaaGreatDoorF14
import Derived.Maps.OwnOps
import Derived.Test.YtpoleaekcjjedaaGreatDoorRows
import Derived.DeepKeys4
import Derived.MapViews
import Derived.Test.YtpoleaekcjjedaaGreatDoorF7
import Derived.Maps.AppendAt
namespace Go.Proofs.YtpoleaekcjjedaaGreatDoor
open Go Go.RowKit

theorem rdy_len {t : Lts} (hv : Valid t) (k : Int) : (rdy t k).length ≤ 300 := by
 unfold rdy labSet
 rw [List.length_map]
 refine Nat.le_trans (Lib.compact_length_le _) ?_
 rw [List.length_mergeSort, List.length_map, List.length_map]
 exact Nat.le_trans (List.length_filter_le _ _) hv.most

set_option maxRecDepth 100000 in
set_option maxHeartbeats 1000000 in
theorem excess1_any (lo lo2 tb ob : Nat) (t : Lts) (lv ev ov : Value) (o : List ByteArray) (k : Int) (w : World) (hv : Valid t) (hl : SliceK 1 encS lo w lv t.labels) (he : SliceK 3 encE lo w ev t.edges) (ho : SliceK 1 encS lo2 w ov o)
  (ht : Blk w tb [.int .i64 t.states, .int .i64 t.initial, lv, ev] 31) (hob : Blk w ob [ov] 22) :
  Calls Tryz.prog 207 #[.int .i64 k, .pointer (some ⟨tb, 0, none⟩), .pointer (some ⟨ob, 0, none⟩)] w fun e w' => e = .returned (.bool (withinL (rdy t k) o)) ∧ Below w.heap.size w w' := by
 have HOV := Lib.hid ho
 have HOB := Lib.hid hob
 have HTB := Lib.hid ht
 have hD : Below w.heap.size w w.drew := (Below.refl _ _).drew
 have HSW : Hid (∀ w', Below w.heap.size w w' → w'.cell? ⟨ob, 0, none⟩ = some ov ∧ w'.cell? ⟨tb, 0, none⟩ = some (.int .i64 t.states) ∧ w'.cell? ⟨tb, 1, none⟩ = some (.int .i64 t.initial) ∧ w'.cell? ⟨tb, 2, none⟩ = some lv ∧ w'.cell? ⟨tb, 3, none⟩ = some ev) := fun w' hb =>
  ⟨(HOB.out.below hb).cell 0 rfl, (HTB.out.below hb).cell 0 rfl, (HTB.out.below hb).cell 1 rfl, (HTB.out.below hb).cell 2 rfl, (HTB.out.below hb).cell 3 rfl⟩
 have HD := Lib.hid hD
 have HRL := Lib.hid (readyLabels_any lo t lv ev k w.drew hv (hl.below hD) (he.below hD))
 have hrl := rdy_len hv k
 have HLK : Hid (∀ w' v, Below w.heap.size w w' → SliceK 1 encS w.drew.heap.size w' v (rdy t k) → Calls Tryz.prog 144 #[v, ov] w' (MadeTxI (lackL (rdy t k) o) w')) := fun w' v hb h => lacking_any _ lo2 v ov (rdy t k) o w' h (HOV.out.below hb) (by omega)
 have hle : (lackL (rdy t k) o).length ≤ 300 := Nat.le_trans (List.length_filter_le _ _) hrl
 have HRF : Hid (withinL (rdy t k) o = (((lackL (rdy t k) o).length : Int) == 0)) := by
  unfold Hid
  rw [Bool.eq_iff_iff, ← lack_nil, beq_iff_eq]
  omega
 obtain ⟨KN, hKN⟩ : ∃ KN, KN = (lackL (rdy t k) o).length := ⟨_, rfl⟩
 rw [← hKN] at HRF hle
 have HKN := Lib.hid hKN
 clear hv hl he ho ht hob hD hKN hrl
 go_enter Tryz.func207, Tryz.ntmps207
 go_wp2
 go_region_held3 (fun w' => w'.cell? ⟨ob, 0, none⟩ = some ov ∧ w'.cell? ⟨tb, 0, none⟩ = some (.int .i64 t.states) ∧ w'.cell? ⟨tb, 1, none⟩ = some (.int .i64 t.initial) ∧ w'.cell? ⟨tb, 2, none⟩ = some lv ∧ w'.cell? ⟨tb, 3, none⟩ = some ev)
  (first
   | exact HSW.out _ HD.out
   | exact HSW.out _ hq1
   | exact HSW.out _ hq2
   | go_keep)
  (first
   | (go_at_call 145; refine Calls.mono HRL.out ?_; rintro e w1 ⟨v1, rfl, hb1, ho1⟩; have hq1 : Below w.heap.size w w1 := HD.out.trans (hb1.mono (by simp)))
   | (go_at_call 144; refine Calls.mono (HLK.out _ _ hq1 ho1.at) ?_; rintro e w2 ⟨v2, rfl, hb2, ho2⟩; obtain ⟨a2, c2, rfl, -, -⟩ := owns_slice ho2; rw [← HKN.out]; have hq2 : Below w.heap.size w w2 := hq1.trans (hb2.mono hq1.size))
   | fail)
 all_goals (
  have HQ := Lib.hid hq2
  clear hb1 ho1 hq1 hb2 ho2 hq2
  go_wp2
  go_ret
  exact ⟨ret_bool HRF.out.symm, HQ.out⟩)

theorem excL_at {a b : Lts} {S T : List Int} {k : Nat} (hk : k < (stabs b T).length) (hno : ∀ j (h : j < (stabs b T).length), j < k → excB a b S (stabs b T)[j] = false) (hb : excB a b S (stabs b T)[k] = true) : excL a b S T = (stabs b T)[k] := by
 unfold excL
 rw [find_at hk hno hb, Option.getD_some]
theorem excL_none {a b : Lts} {S T : List Int} (hno : ∀ j (h : j < (stabs b T).length), excB a b S (stabs b T)[j] = false) : excL a b S T = -1 := by
 unfold excL
 rw [find_none hno]
 rfl

set_option maxRecDepth 100000 in
set_option maxHeartbeats 4000000 in
theorem excess_any (lo lo2 lo3 : Nat) (a b : Lts) (la ea lb eb av sv : Value) (S T : List Int) (w : World) (hva : Valid a) (hvb : Valid b) (hal : SliceK 1 encS lo w la a.labels) (hae : SliceK 3 encE lo w ea a.edges) (hbl : SliceK 1 encS lo w lb b.labels) (hbe : SliceK 3 encE lo w eb b.edges)
  (hS : SliceK 1 encI lo2 w av S) (hT : SliceK 1 encI lo3 w sv T) (hSz : S.length ≤ 1000) (hTz : T.length ≤ 1000) :
  Calls Tryz.prog 141 #[.agg #[.int .i64 a.states, .int .i64 a.initial, la, ea], .agg #[.int .i64 b.states, .int .i64 b.initial, lb, eb], av, sv] w fun e w' => e = .returned (.int .i64 (excL a b S T)) ∧ Below w.heap.size w w' := by
 obtain ⟨tb, htb⟩ : ∃ tb, tb = w.heap.size := ⟨_, rfl⟩
 obtain ⟨wA, hwA⟩ : ∃ wA, wA = (w.alloc (.cells #[.int .i64 a.states, .int .i64 a.initial, la, ea] 31)).alloc (.cells #[.int .i64 b.states, .int .i64 b.initial, lb, eb] 31) := ⟨_, rfl⟩
 have hbA : Below w.heap.size w wA := by rw [hwA]; exact ((Below.refl _ _).alloc (Nat.le_refl _) _).alloc (by simp) _
 have hX : Blk wA tb [.int .i64 a.states, .int .i64 a.initial, la, ea] 31 := by rw [hwA, htb]; exact (Blk.new w _ _).alloc _
 have hY : Blk wA (tb + 1) [.int .i64 b.states, .int .i64 b.initial, lb, eb] 31 := by
  have h := Blk.new (w.alloc (.cells #[.int .i64 a.states, .int .i64 a.initial, la, ea] 31)) [.int .i64 b.states, .int .i64 b.initial, lb, eb] 31
  rw [World.size_alloc, ← htb] at h
  rw [hwA]
  exact h
 have HST := Lib.hid (stable_any lo lo3 b lb eb sv T wA hvb (hbl.below hbA) (hbe.below hbA) (hT.below hbA) (by omega))
 have HVA := Lib.hid hva
 have HVB := Lib.hid hvb
 have HAL := Lib.hid (hal.below hbA)
 have HAE := Lib.hid (hae.below hbA)
 have HBL := Lib.hid (hbl.below hbA)
 have HBE := Lib.hid (hbe.below hbA)
 have HSV := Lib.hid (hS.below hbA)
 have hsl : (stabs b T).length ≤ 1000 := Nat.le_trans (List.length_filter_le _ _) hTz
 have HSZ : Hid (S.length ≤ 1048576) := by unfold Hid; omega
 have HX := Lib.hid hX
 have HY := Lib.hid hY
 have HBA := Lib.hid hbA
 have HWA := Lib.hid hwA
 have HTB := Lib.hid htb
 clear hva hvb hal hae hbl hbe hS hT hbA hX hY hwA htb hSz hTz
 go_enter Tryz.func141, Tryz.ntmps141
 go_wp2_with fail
 rw [← HWA.out]
 try rw [← HTB.out]
 refine Calls.mono HST.out ?_
 rintro e w1 ⟨v1, rfl, hb1, ho1⟩
 have hs1 : SliceK 1 encI wA.heap.size w1 v1 (stabs b T) := SliceK.of_owns (e := 2) encI_len rfl (by rw [flat_encI]; exact ho1)
 obtain ⟨va, vc, rfl, -, -, hrow⟩ := hs1
 have HR := Lib.hid hrow
 obtain ⟨N, hN⟩ : ∃ N, N = (stabs b T).length := ⟨_, rfl⟩
 rw [← hN] at hsl ⊢
 have HN := Lib.hid hN
 have HB1 := Lib.hid hb1
 have hsz1 := hb1.size
 clear hb1 ho1 hrow hN HST
 go_wp2
 go_loopw [17] (fun v17 wr => ∃ k : Nat, k ≤ N ∧ v17 = .int .i64 k ∧ Below w1.heap.size w1 wr ∧ ∀ j (h : j < (stabs b T).length), j < k → excB a b S (stabs b T)[j] = false) (fun v17 _ => N - (intOf v17).toNat)
 case atStart => exact ⟨0, Nat.zero_le _, rfl, Below.refl _ _, fun _ _ h => by omega⟩
 case round =>
  obtain ⟨k, hk, rfl, hbl, hno⟩ := hrel
  have HBK := Lib.hid hbl
  have HNO := Lib.hid hno
  have hsz := hbl.size
  clear hno
  by_cases hlt : k < N
  ·have hlt2 : k < (stabs b T).length := by rw [← HN.out]; exact hlt
   obtain ⟨b9, o9, rfl, -, hbw, cx⟩ := (HR.out.below hbl).one hlt2
   simp only [encI, List.getElem?_cons_zero] at cx
   obtain ⟨x, hx⟩ : ∃ x, x = (stabs b T)[k] := ⟨_, rfl⟩
   rw [← hx] at cx
   have HXX := Lib.hid hx
   have hA9 : Below wA.heap.size wA wr := HB1.out.trans (hbl.mono hsz1)
   have HA9 := Lib.hid hA9
   have hszA := hA9.size
   have y0 := (HY.out.below hA9).cell 0 rfl
   have y1 := (HY.out.below hA9).cell 1 rfl
   have y2 := (HY.out.below hA9).cell 2 rfl
   have y3 := (HY.out.below hA9).cell 3 rfl
   have HRL := Lib.hid (readyLabels_any lo b lb eb x wr HVB.out (HBL.out.below hA9) (HBE.out.below hA9))
   clear hbl hx hA9
   go_wp2_with fail
   refine Calls.mono HRL.out ?_
   rintro e w3 ⟨v3, rfl, hb3, ho3⟩
   obtain ⟨w4, hw4⟩ : ∃ w4, w4 = w3.alloc (.cells #[v3] 22) := ⟨_, rfl⟩
   obtain ⟨ob, hob⟩ : ∃ ob, ob = w3.heap.size := ⟨_, rfl⟩
   have hb34 : Below w3.heap.size w3 w4 := by rw [hw4]; exact (Below.refl _ _).alloc (Nat.le_refl _) _
   have hO4 : Blk w4 ob [v3] 22 := by rw [hw4, hob]; exact Blk.new w3 _ _
   have hA4 : Below wA.heap.size wA w4 := HA9.out.trans ((hb3.trans (hb34.mono hb3.size)).mono hszA)
   have HK4 := Lib.hid (HBK.out.trans ((hb3.trans (hb34.mono hb3.size)).mono hsz))
   have x0 := (HX.out.below hA4).cell 0 rfl
   have x1 := (HX.out.below hA4).cell 1 rfl
   have x2 := (HX.out.below hA4).cell 2 rfl
   have x3 := (HX.out.below hA4).cell 3 rfl
   have HO4 := Lib.hid hO4
   have HO3 : Hid (SliceK 1 encS wr.heap.size w4 v3 (rdy b x)) := ho3.at.below hb34
   have HST := Lib.hid (stable_any lo lo2 a la ea av S w4 HVA.out (HAL.out.below hA4) (HAE.out.below hA4) (HSV.out.below hA4) HSZ.out)
   have HA4 := Lib.hid hA4
   have hsz4 := HK4.out.size
   have HW4 := Lib.hid hw4
   have HOB := Lib.hid hob
   obtain ⟨a3, c3, rfl, -, -⟩ := owns_slice ho3
   have hxl := (HX.out.below hA4).lt
   rw [hw4] at x0 x1 x2 x3 hxl
   clear hb3 ho3 hb34 hO4 hA4 hw4 hob cx y0 y1 y2 y3 HRL
   go_wp2_with fail
   rw [← HW4.out]
   try rw [← HOB.out]
   refine Calls.mono HST.out ?_
   rintro e w5 ⟨v5, rfl, hb5, ho5⟩
   have hs5 : SliceK 1 encI w4.heap.size w5 v5 (stabs a S) := SliceK.of_owns (e := 2) encI_len rfl (by rw [flat_encI]; exact ho5)
   have HCF := Lib.hid (ContainsFuncI w4.heap.size v5 (stabs a S) 207 #[.pointer (some ⟨tb, 0, none⟩), .pointer (some ⟨ob, 0, none⟩)] (fun j => withinL (rdy a j) (rdy b x)) w5 hs5 (fun args w => by kernel_rfl)
    fun w' hb j _ => excess1_any lo wr.heap.size tb ob a la ea _ (rdy b x) j w' HVA.out (HAL.out.below (HA4.out.trans ((hb5.trans (hb.mono hb5.size)).mono HA4.out.size))) (HAE.out.below (HA4.out.trans ((hb5.trans (hb.mono hb5.size)).mono HA4.out.size))) (HO3.out.below (hb5.trans (hb.mono hb5.size))) (HX.out.below (HA4.out.trans ((hb5.trans (hb.mono hb5.size)).mono HA4.out.size))) (HO4.out.below (hb5.trans (hb.mono hb5.size))))
   have hex : excB a b S x = !((stabs a S).any fun j => withinL (rdy a j) (rdy b x)) := rfl
   obtain ⟨eb9, heb⟩ : ∃ eb9, eb9 = (stabs a S).any fun j => withinL (rdy a j) (rdy b x) := ⟨_, rfl⟩
   rw [← heb] at HCF hex
   have HEX := Lib.hid hex
   have HK5 := Lib.hid (HK4.out.trans (hb5.mono hsz4))
   have hsz5 := HK5.out.size
   clear hb5 ho5 hs5 x0 x1 x2 x3 hxl heb hex HST
   go_wp2_with fail
   refine Calls.mono HCF.out ?_
   rintro e w6 ⟨rfl, hb6⟩
   have HK6 := Lib.hid (HK5.out.trans (hb6.mono hsz5))
   clear hb6 HCF
   cases eb9
   ·have HF : Hid (excL a b S T = x) := by
     unfold Hid
     rw [excL_at hlt2 HNO.out (by rw [← HXX.out]; exact HEX.out), ← HXX.out]
    go_wp2
    go_ret
    exact ⟨by rw [HF.out]; rfl, HBA.out.trans ((HB1.out.trans (HK6.out.mono hsz1)).mono HBA.out.size)⟩
   ·go_wp2
    go_roundw
    case rel => exact ⟨k + 1, by omega, by go_num, HK6.out, fun j h hj => by
     by_cases e : j = k
     ·subst e; rw [← HXX.out]; exact HEX.out
     ·exact HNO.out j h (by omega)⟩
    case measure => simp [intOf]; omega
  ·have HF : Hid (excL a b S T = -1) := excL_none fun j h => HNO.out j h (by have := HN.out; omega)
   clear hbl
   go_wp2
   go_ret
   exact ⟨by rw [HF.out]; rfl, HBA.out.trans ((HB1.out.trans (HBK.out.mono hsz1)).mono HBA.out.size)⟩

end Go.Proofs.YtpoleaekcjjedaaGreatDoor

namespace Go.Proofs.YtpoleaekcjjedaaGreatDoor
open Go Go.RowKit

/-- A system of the call's own. -/
def OwnLts (lo : Nat) (w : World) (lv ev : Value) (t : Lts) : Prop := w.ownsRow lo 9 1 lv t.labels.length (t.labels.map .string) ∧ w.ownsRow lo 135 3 ev t.edges.length (t.edges.flatMap encE)
theorem OwnLts.below {lo : Nat} {w w' : World} {lv ev : Value} {t : Lts} (h : OwnLts lo w lv ev t) (hb : Below w.heap.size w w') : OwnLts lo w' lv ev t := ⟨owns_below h.1 hb, owns_below h.2 hb⟩
theorem OwnLts.lower {lo lo' : Nat} {w : World} {lv ev : Value} {t : Lts} (h : OwnLts lo w lv ev t) (hl : lo' ≤ lo) : OwnLts lo' w lv ev t := ⟨own_lower h.1 hl, own_lower h.2 hl⟩
theorem OwnLts.turns {base lo hi : Nat} {w w' : World} {lv ev : Value} {t : Lts} (h : OwnLts base w lv ev t) (ht : Turns lo hi w w') (hb : hi ≤ base) : OwnLts base w' lv ev t :=
 ⟨owns_turns h.1 ht (fun b e => .inr (Nat.le_trans hb (h.1.lt b e).1)), owns_turns h.2 ht (fun b e => .inr (Nat.le_trans hb (h.2.lt b e).1))⟩
theorem OwnLts.at {lo : Nat} {w : World} {lv ev : Value} {t : Lts} (h : OwnLts lo w lv ev t) : LtsAt lo w (.agg #[.int .i64 t.states, .int .i64 t.initial, lv, ev]) t :=
 ⟨lv, ev, rfl, SliceK.of_owns (e := 9) encS_len rfl (by rw [flat_encS]; exact h.1), SliceK.of_owns (e := 135) encE_len rfl h.2⟩

end Go.Proofs.YtpoleaekcjjedaaGreatDoor

namespace Go.Proofs.YtpoleaekcjjedaaGreatDoor
open Go Go.RowKit

/-- What a determinization leaves: the flag, the system's four cells. -/
def SetsOf (lo : Nat) (w : World) (t : Lts) (ok : Bool) (n0 : Int) (c2 c3 : Value) : Prop :=
 (ok = false ∧ DFull t) ∨ (ok = true ∧ ∃ st, DOk t st ∧ n0 = (dSys t st).states ∧ OwnLts lo w c2 c3 (dSys t st))
theorem SetsOf.below {lo : Nat} {w w' : World} {t : Lts} {ok : Bool} {n0 : Int} {c2 c3 : Value} (h : SetsOf lo w t ok n0 c2 c3) (hb : Below w.heap.size w w') : SetsOf lo w' t ok n0 c2 c3 := by
 rcases h with h | ⟨h, st, h1, h2, h4⟩
 ·exact .inl h
 ·exact .inr ⟨h, st, h1, h2, h4.below hb⟩
theorem SetsOf.lower {lo lo' : Nat} {w : World} {t : Lts} {ok : Bool} {n0 : Int} {c2 c3 : Value} (h : SetsOf lo w t ok n0 c2 c3) (hl : lo' ≤ lo) : SetsOf lo' w t ok n0 c2 c3 := by
 rcases h with h | ⟨h, st, h1, h2, h4⟩
 ·exact .inl h
 ·exact .inr ⟨h, st, h1, h2, h4.lower hl⟩
theorem SetsOf.turns {base lo hi : Nat} {w w' : World} {t : Lts} {ok : Bool} {n0 : Int} {c2 c3 : Value} (h : SetsOf base w t ok n0 c2 c3) (ht : Turns lo hi w w') (hb : hi ≤ base) : SetsOf base w' t ok n0 c2 c3 := by
 rcases h with h | ⟨h, st, h1, h2, h4⟩
 ·exact .inl h
 ·exact .inr ⟨h, st, h1, h2, h4.turns ht hb⟩

def CmpOk (a b : Lts) (both : Bool) (r : Bool) (xs : List ByteArray) (code : Int) : Prop := CmpIs a b both r xs code ∧ xs.length ≤ 2000
theorem CmpOk.unique {a b : Lts} {both r r' : Bool} {xs xs' : List ByteArray} {code code' : Int} (h : CmpOk a b both r xs code) (k : CmpOk a b both r' xs' code') : r = r' ∧ xs = xs' ∧ code = code' := h.1.unique k.1
theorem CmpOk.few {a b : Lts} {both r : Bool} {xs : List ByteArray} {code : Int} (h : CmpOk a b both r xs code) : xs.length ≤ 2000 := h.2
def RetCmp (a b : Lts) (both : Bool) (w : World) (e : Ending) (w' : World) : Prop :=
 Below w.heap.size w w' ∧ ∃ (r : Bool) (xs : List ByteArray) (code : Int) (v : Value), e = .returned (.tuple #[.bool r, v, .int .i64 code]) ∧ CmpOk a b both r xs code ∧ OwnStrs w.heap.size w' v xs
theorem cmp_none {a b : Lts} {both : Bool} {code : Int} {w w' : World} (hb : Below w.heap.size w w') (h : CmpIs a b both false [] code) : RetCmp a b both w (.returned (.tuple #[.bool false, .slice none 0 0, .int .i64 code])) w' :=
 ⟨hb, false, [], code, _, rfl, ⟨h, Nat.zero_le _⟩, ⟨rfl, .inl ⟨rfl, rfl⟩⟩⟩

end Go.Proofs.YtpoleaekcjjedaaGreatDoor

namespace Go.Proofs.YtpoleaekcjjedaaGreatDoor
open Go Go.RowKit

theorem results_tmp4 {fn : Func} {t u v z : Tmp} (h : fn.results = #[.tmp t, .tmp u, .tmp v, .tmp z]) (tmps : Array Value) (P : Program) (w : World) :
  (results fn tmps).run P w = .ok (.tuple #[tmps.getD t undef, tmps.getD u undef, tmps.getD v undef, tmps.getD z undef]) w := by
 simp [results, h]

def DetmAns (t : Lts) (r : Bool) (xs : List ByteArray) (s : ByteArray) (code : Int) : Prop := DetmIs t r xs s code ∧ xs.length ≤ 2000
theorem DetmAns.unique {t : Lts} {r r' : Bool} {xs xs' : List ByteArray} {s s' : ByteArray} {code code' : Int} (h : DetmAns t r xs s code) (k : DetmAns t r' xs' s' code') : r = r' ∧ xs = xs' ∧ s = s' ∧ code = code' := h.1.unique k.1
theorem DetmAns.few {t : Lts} {r : Bool} {xs : List ByteArray} {s : ByteArray} {code : Int} (h : DetmAns t r xs s code) : xs.length ≤ 2000 := h.2
def RetDt (t : Lts) (w : World) (e : Ending) (w' : World) : Prop :=
 Below w.heap.size w w' ∧ ∃ (r : Bool) (xs : List ByteArray) (s : ByteArray) (code : Int) (v : Value), e = .returned (.tuple #[.bool r, v, .string s, .int .i64 code]) ∧ DetmAns t r xs s code ∧ OwnStrs w.heap.size w' v xs
theorem dt_none {t : Lts} {r : Bool} {code : Int} {w w' : World} (hb : Below w.heap.size w w') (h : DetmIs t r [] ByteArray.empty code) : RetDt t w (.returned (.tuple #[.bool r, .slice none 0 0, .string ⟨#[]⟩, .int .i64 code])) w' :=
 ⟨hb, r, [], ByteArray.empty, code, _, rfl, ⟨h, Nat.zero_le _⟩, ⟨rfl, .inl ⟨rfl, rfl⟩⟩⟩

theorem labK_get {L : List ByteArray} {k : Nat} (h : k + 1 < L.length) : labK L k = L[k + 1] := by
 unfold labK
 rw [List.getD_eq_getElem?_getD, List.getElem?_eq_getElem h]
 rfl
/-- A label leads on from a row just if it leads somewhere in the deterministic system. -/
theorem sometimes_go {t : Lts} {st : DNet} (hv : Valid t) (h : DOk t st) {i : Nat} {cur : List Int} (hc : st.rows[i]? = some cur) {k : Nat} (hk : k + 1 < t.labels.length) :
  sometimes t cur (labK t.labels k) = (decide (0 ≤ goTo (dSys t st) (i : Int) (labK t.labels k)) && refuseB t cur (labK t.labels k)) := by
 unfold sometimes
 congr 1
 have hkl := labK_get hk
 have hne : 0 < (followL t cur (labK t.labels k)).length ↔ nextS t cur ((k : Int) + 1) ≠ [] := by
  have h1 := nextS_eq hv cur hk
  rw [← hkl] at h1
  have h2 : ((k + 1 : Nat) : Int) = (k : Int) + 1 := by omega
  rw [h2] at h1
  have hs := nextS_is hv cur ((k : Int) + 1)
  have hf := followL_is hv cur hk
  rw [← hkl] at hf
  rw [h2] at hf
  constructor
  ·intro hp he
   obtain ⟨x, hx⟩ := List.exists_mem_of_length_pos hp
   have := (hs.mem x).2 (clos.base ((hf.mem x).1 hx))
   rw [he] at this
   cases this
  ·intro hp
   refine Nat.pos_of_ne_zero fun e => hp ?_
   have e2 := List.length_eq_zero_iff.1 e
   refine List.eq_nil_iff_forall_not_mem.2 fun x hx => ?_
   obtain ⟨a, ha, -⟩ := (hs.mem x).1 hx
   have := (hf.mem a).2 ha
   rw [e2] at this
   cases this
 rcases go_row hv h hc hk with ⟨h1, h2⟩ | ⟨h1, j, h2, h3⟩
 ·rw [h2, decide_eq_false (show ¬ 0 < _ from fun hp => hne.1 hp h1)]
  rfl
 ·rw [h2, decide_eq_true (hne.2 h1), decide_eq_true (by omega)]
theorem undet_first {t : Lts} {S : List Int} {k : Nat} (hk : k + 1 < t.labels.length) (hs : sometimes t S (labK t.labels k) = true) (hno : ∀ j, j < k → sometimes t S (labK t.labels j) = false) : undetL t S = labK t.labels k := by
 unfold undetL
 have h9 : ∀ j (h : j < (t.labels.drop 1).length), (t.labels.drop 1)[j] = labK t.labels j := fun j h => by
  rw [List.length_drop] at h
  rw [labK_get (by omega), List.getElem_drop]
  congr 1
  omega
 have hkl : k < (t.labels.drop 1).length := by rw [List.length_drop]; omega
 rw [find_at hkl (fun j hj hjk => by rw [h9 j hj]; exact hno j hjk) (by rw [h9 k hkl]; exact hs), h9 k hkl]
 rfl
theorem undet_none {t : Lts} (hv : Valid t) {S : List Int} (hno : ∀ j, j + 1 < t.labels.length → sometimes t S (labK t.labels j) = false) : ¬ undetL t S ≠ ByteArray.empty := by
 rw [undet_iff hv]
 rintro ⟨k, hk, hs⟩
 rw [hno k hk] at hs
 cases hs

end Go.Proofs.YtpoleaekcjjedaaGreatDoor

namespace Go.Proofs.YtpoleaekcjjedaaGreatDoor
open Go Go.RowKit

/-- What a determinization leaves, with its rows. -/
def SetsR (lo : Nat) (w : World) (t : Lts) (ok : Bool) (n0 : Int) (c2 c3 vr : Value) : Prop :=
 (ok = false ∧ DFull t) ∨ (ok = true ∧ ∃ st vs, DOk t st ∧ n0 = (dSys t st).states ∧ OwnLts lo w c2 c3 (dSys t st) ∧ OwnIntss 83 2 lo w vr vs st.rows)
theorem SetsR.below {lo : Nat} {w w' : World} {t : Lts} {ok : Bool} {n0 : Int} {c2 c3 vr : Value} (h : SetsR lo w t ok n0 c2 c3 vr) (hb : Below w.heap.size w w') : SetsR lo w' t ok n0 c2 c3 vr := by
 rcases h with h | ⟨h, st, vs, h1, h2, h3, h4⟩
 ·exact .inl h
 ·exact .inr ⟨h, st, vs, h1, h2, h3.below hb, h4.below hb⟩
theorem SetsR.lower {lo lo' : Nat} {w : World} {t : Lts} {ok : Bool} {n0 : Int} {c2 c3 vr : Value} (h : SetsR lo w t ok n0 c2 c3 vr) (hl : lo' ≤ lo) : SetsR lo' w t ok n0 c2 c3 vr := by
 rcases h with h | ⟨h, st, vs, h1, h2, h3, h4⟩
 ·exact .inl h
 ·exact .inr ⟨h, st, vs, h1, h2, h3.lower hl, h4.lower hl⟩
/-- The answer: whether it refines, the trace, the refusal. -/
def RefB (a b : Lts) (sa sb : DNet) (r : Bool) (xs ys : List ByteArray) : Prop :=
 (NoWord ((0 : Int), (0 : Int)) (goBoth (dSys a sa) (dSys b sb) (bothL a b)) ((bothL a b).length - 1) (badP a b sa sb) ∧ r = true ∧ xs = [] ∧ ys = [])
  ∨ ∃ u, Least ((0 : Int), (0 : Int)) (goBoth (dSys a sa) (dSys b sb) (bothL a b)) ((bothL a b).length - 1) (badP a b sa sb) u ∧ r = false ∧ xs = txtsOf (bothL a b) u ∧ ys = refL a b sa sb (difS (dSys a sa) (dSys b sb) (bothL a b) u)
theorem bothL_few {a b : Lts} (ha : Valid a) (hb : Valid b) : (bothL a b).length ≤ 25 := by
 unfold bothL labSet
 rw [List.length_map]
 refine Nat.le_trans (Lib.compact_length_le _) ?_
 rw [List.length_mergeSort, List.length_map, List.length_cons, List.length_append]
 have h1 := ha.labels.most
 have h2 := hb.labels.most
 omega
theorem refL_len (a b : Lts) (sa sb : DNet) (p : Int × Int) : (refL a b sa sb p).length ≤ (bothL a b).length := by
 unfold refL
 split
 ·exact Nat.zero_le _
 ·unfold lackL
  refine Nat.le_trans (List.length_filter_le _ _) ?_
  rw [List.length_drop]
  omega
/-- Two rows lie apart. -/
def Far (v u : Value) : Prop := ∀ g, v.ownBlock = some g → u.ownBlock ≠ some g
theorem Far.none (u : Value) : Far (.slice Option.none 0 0) u := fun g h => by cases h
theorem Far.later {lo m e e' k k' n n' : Nat} {w w' : World} {v u : Value} {xs ys : List Value} (h : w.ownsRow lo e k v n xs) (hu : w'.ownsRow m e' k' u n' ys) (hm : w.heap.size ≤ m) : Far v u := fun g hg hg2 => by
 have h1 := (h.lt g hg).2
 have h2 := (hu.lt g hg2).1
 omega
theorem Far.symm {v u : Value} (h : Far v u) : Far u v := fun g h1 h2 => h g h2 h1
theorem Far.or {v u : Value} (h : Far v u) : v.ownBlock = Option.none ∨ v.ownBlock ≠ u.ownBlock := by
 cases hv : v.ownBlock with
 | none => exact .inl rfl
 | some g => exact .inr fun e => h g hv e.symm
/-- What the refinement returns: the flag's sense is the program's (ok) and (refines). -/
def RetRfn (a b : Lts) (w w' : World) (ok r : Bool) (v1 v2 : Value) : Prop :=
 Below w.heap.size w w' ∧ ((ok = false ∧ (DFull a ∨ DFull b)) ∨ (ok = true ∧ ∃ sa sb xs ys, DOk a sa ∧ DOk b sb ∧ RefB a b sa sb r xs ys ∧ xs.length ≤ 2000 ∧ OwnStrs w.heap.size w' v1 xs ∧ OwnStrs w.heap.size w' v2 ys ∧ Far v1 v2))
/-- What RefinesFailures returns. -/
def RefAns (a b : Lts) (r : Bool) (xs ys : List ByteArray) (code : Int) : Prop := RefIs a b r xs ys code ∧ xs.length ≤ 2000 ∧ ys.length ≤ 2000
theorem RefAns.unique {a b : Lts} {r r' : Bool} {xs xs' ys ys' : List ByteArray} {code code' : Int} (h : RefAns a b r xs ys code) (k : RefAns a b r' xs' ys' code') : r = r' ∧ xs = xs' ∧ ys = ys' ∧ code = code' := h.1.unique k.1
theorem RefAns.few {a b : Lts} {r : Bool} {xs ys : List ByteArray} {code : Int} (h : RefAns a b r xs ys code) : xs.length ≤ 2000 ∧ ys.length ≤ 2000 := h.2
def RetRef (a b : Lts) (w : World) (e : Ending) (w' : World) : Prop :=
 Below w.heap.size w w' ∧ ∃ (r : Bool) (xs ys : List ByteArray) (code : Int) (v u : Value), e = .returned (.tuple #[.bool r, v, u, .int .i64 code]) ∧ RefAns a b r xs ys code ∧ OwnStrs w.heap.size w' v xs ∧ OwnStrs w.heap.size w' u ys ∧ Far v u
theorem ref_none {a b : Lts} {code : Int} {w w' : World} (hb : Below w.heap.size w w') (h : RefIs a b false [] [] code) : RetRef a b w (.returned (.tuple #[.bool false, .slice none 0 0, .slice none 0 0, .int .i64 code])) w' :=
 ⟨hb, false, [], [], code, _, _, rfl, ⟨h, Nat.zero_le _, Nat.zero_le _⟩, ⟨rfl, .inl ⟨rfl, rfl⟩⟩, ⟨rfl, .inl ⟨rfl, rfl⟩⟩, Far.none _⟩
theorem ref_some {a b : Lts} {sa sb : DNet} {r : Bool} {xs ys : List ByteArray} (ha : Valid a) (hb : Valid b) (hoa : DOk a sa) (hob : DOk b sb) (h : RefB a b sa sb r xs ys) (hx : xs.length ≤ 2000) : RefAns a b r xs ys 0 := by
 refine ⟨.inr (.inr ⟨⟨ha, hb⟩, sa, sb, hoa, hob, rfl, h⟩), hx, ?_⟩
 rcases h with ⟨-, -, -, rfl⟩ | ⟨u, -, -, -, rfl⟩
 ·exact Nat.zero_le _
 ·have h1 := refL_len a b sa sb (difS (dSys a sa) (dSys b sb) (bothL a b) u)
  have h2 := bothL_few ha hb
  omega
/-- What EqualFailures returns. -/
def RetEqf (a b : Lts) (w : World) (e : Ending) (w' : World) : Prop :=
 Below w.heap.size w w' ∧ ∃ (r : Bool) (code : Int), e = .returned (.tuple #[.bool r, .int .i64 code]) ∧ EqfIs a b r code
theorem eqf_bad {a b : Lts} (h : ¬ (Valid a ∧ Valid b)) : EqfIs a b false 1 := ⟨false, [], [], false, [], [], .inl ⟨h, rfl, rfl, rfl, rfl⟩, .inl ⟨fun k => h ⟨k.2, k.1⟩, rfl, rfl, rfl, rfl⟩, rfl⟩
theorem eqf_full {a b : Lts} (ha : Valid a) (hb : Valid b) (h : DFull a ∨ DFull b) : EqfIs a b false 5 :=
 ⟨false, [], [], false, [], [], .inr (.inl ⟨⟨ha, hb⟩, h, rfl, rfl, rfl, rfl⟩), .inr (.inl ⟨⟨hb, ha⟩, h.symm, rfl, rfl, rfl, rfl⟩), rfl⟩
theorem eqf_some {a b : Lts} {sa sb sa' sb' : DNet} {r1 r2 : Bool} {xs ys xs' ys' : List ByteArray} (ha : Valid a) (hb : Valid b) (hoa : DOk a sa) (hob : DOk b sb) (hoa' : DOk a sa') (hob' : DOk b sb') (h : RefB a b sa sb r1 xs ys) (k : RefB b a sb' sa' r2 xs' ys') : EqfIs a b (r1 && r2) 0 :=
 ⟨r1, xs, ys, r2, xs', ys', .inr (.inr ⟨⟨ha, hb⟩, sa, sb, hoa, hob, rfl, h⟩), .inr (.inr ⟨⟨hb, ha⟩, sb', sa', hob', hoa', rfl, k⟩), rfl⟩
theorem badP_alive {a b : Lts} {sa sb : DNet} (p : Int × Int) : liveF (badP a b sa sb) p ↔ badP a b sa sb p := by
 unfold liveF deadB badP
 constructor
 ·exact fun h => h.2
 ·intro h
  refine ⟨?_, h⟩
  rintro ⟨-, h2⟩
  have := h.1
  omega

end Go.Proofs.YtpoleaekcjjedaaGreatDoor

namespace Go.Proofs.YtpoleaekcjjedaaGreatDoor
open Go Go.RowKit Go.ChangeMaps Go.MapKept
open Go.Maps (Keyed)

def trueAt (ks : List Value) : List MapEntry := ks.mapIdx fun i k => (⟨k, .bool true, i⟩ : MapEntry)
/-- The block of a map whose keys lead to true. -/
def SetMap (w : World) (b : Nat) (ks : List Value) : Prop := w.heap[b]? = some (.map (trueAt ks).toArray ks.length)

theorem SetMap.made (w : World) : SetMap (w.alloc (.map #[] 0)) w.heap.size [] := (MapKept.heap_alloc w _).1
theorem SetMap.lt {w : World} {b : Nat} {ks : List Value} (h : SetMap w b ks) : b < w.heap.size := (Array.getElem?_eq_some_iff.1 h).1
theorem SetMap.kept {w w' : World} {b : Nat} {ks : List Value} {row : Option Nat} (h : SetMap w b ks) (hg : w.grownBy w' row) (hne : some b ≠ row) : SetMap w' b ks :=
 (hg.block b (Array.getElem?_eq_some_iff.1 h).1 hne).trans h
theorem SetMap.below {w w' : World} {b : Nat} {ks : List Value} (h : SetMap w b ks) (hb : Below w.heap.size w w') : SetMap w' b ks :=
 (hb.block b (Array.getElem?_eq_some_iff.1 h).1).trans h

theorem trueAt_key {ks : List Value} {e : MapEntry} (h : e ∈ (trueAt ks).toArray.toList) : e.key ∈ ks := by
 simp only [trueAt, List.mem_mapIdx] at h
 obtain ⟨i, hi, rfl⟩ := h
 exact List.getElem_mem hi
theorem trueAt_val {ks : List Value} {e : MapEntry} (h : e ∈ (trueAt ks).toArray.toList) : e.val = .bool true := by
 simp only [trueAt, List.mem_mapIdx] at h
 obtain ⟨i, hi, rfl⟩ := h
 rfl

section
variable {P : Program} {k t e : TypeId} {w : World} {b : Nat} {ks : List Value}

theorem SetMap.found (h : SetMap w b ks) (K : Keyed P k) (ht : P.underlying t = some (.map k e)) (hks : ∀ v ∈ ks, ∃ l, keyOf P k v = some l) {key : Value} (hin : key ∈ ks) :
  (Instr.lookup t (.map (some b)) key false).run P w = .ok (.bool true) w := by
 obtain ⟨kl, hkey⟩ := hks _ hin
 rcases K.find w hkey (trueAt ks).toArray.toList (fun x hx => hks _ (trueAt_key hx)) with ⟨_, h2⟩ | ⟨j, e0, h1, h2, h3⟩
 ·exfalso
  obtain ⟨i, hi, rfl⟩ := List.mem_iff_getElem.1 hin
  refine h2 ⟨ks[i], .bool true, i⟩ ?_ rfl
  simp only [trueAt, List.mem_mapIdx]
  exact ⟨i, hi, rfl⟩
 ·have hb : w.heap[b]? = some (.map (trueAt ks).toArray ks.length) := h
  have hv := trueAt_val (List.mem_of_getElem? h2)
  have h2' : (trueAt ks)[j]? = some e0 := by simpa using h2
  obtain ⟨hj, h2''⟩ := List.getElem?_eq_some_iff.1 h2'
  simp only at h1
  simp [Instr.lookup, run_underlying ht, MapKept.run_getObj_map hb, K.check w _ hkey, h1, hv, Result.andThen]

theorem SetMap.missing (h : SetMap w b ks) (K : Keyed P k) (ht : P.underlying t = some (.map k e)) (hks : ∀ v ∈ ks, ∃ l, keyOf P k v = some l) (hz : (zeroValue e).run P w = .ok (.bool false) w) {key : Value} {kl : Lit} (hkey : keyOf P k key = some kl) (hn : key ∉ ks) :
  (Instr.lookup t (.map (some b)) key false).run P w = .ok (.bool false) w := by
 rcases K.find w hkey (trueAt ks).toArray.toList (fun x hx => hks _ (trueAt_key hx)) with ⟨h1, _⟩ | ⟨j, e0, _, h2, h3⟩
 ·have hb : w.heap[b]? = some (.map (trueAt ks).toArray ks.length) := h
  simp only at h1
  simp [Instr.lookup, run_underlying ht, MapKept.run_getObj_map hb, K.check w _ hkey, h1, hz, Result.andThen]
 ·exact absurd (h3 ▸ trueAt_key (List.mem_of_getElem? h2)) hn

theorem SetMap.store (h : SetMap w b ks) (K : Keyed P k) (ht : P.underlying t = some (.map k e)) (hks : ∀ v ∈ ks, ∃ l, keyOf P k v = some l) {key : Value} {kl : Lit} (hkey : keyOf P k key = some kl) (hn : key ∉ ks) (hroom : ks.length < maxLen) :
  ∃ w', (Instr.mapUpdate t (.map (some b)) key (.bool true)).run P w = .ok () w' ∧ SetMap w' b (ks ++ [key]) ∧ w.grownBy w' (some b) := by
 have hb : w.heap[b]? = some (.map (trueAt ks).toArray ks.length) := h
 have e1 : (trueAt (ks ++ [key])).toArray = (trueAt ks).toArray.push ⟨key, .bool true, ks.length⟩ := by
  unfold trueAt
  rw [List.mapIdx_append]
  simp
 rcases K.find w hkey (trueAt ks).toArray.toList (fun x hx => hks _ (trueAt_key hx)) with ⟨h1, _⟩ | ⟨j, e0, _, h2, h3⟩
 ·refine ⟨setBlock w b (.map ((trueAt ks).toArray.push ⟨key, .bool true, ks.length⟩) (ks.length + 1)), ?_, ?_, ?_⟩
  ·simp only at h1
   have hr : ks.length < 9223372036854775807 := hroom
   simp [Instr.mapUpdate, run_underlying ht, MapKept.run_getObj_map hb, K.check w false hkey, h1, MapKept.run_setObj_map _ hb, Result.andThen, setBlock]
  ·unfold SetMap
   rw [e1, List.length_append, List.length_singleton]
   exact heap_setBlock_same hb _
  ·exact ⟨rfl, rfl, rfl, by simp [setBlock], fun i _ hi => heap_setBlock_other hb _ (fun e => hi (by rw [e]))⟩
 ·exact absurd (h3 ▸ trueAt_key (List.mem_of_getElem? h2)) hn

end
end Go.Proofs.YtpoleaekcjjedaaGreatDoor

namespace Go.Proofs.YtpoleaekcjjedaaGreatDoor
open Go Go.RowKit
open Go.Maps (Keyed)

def key2 (p : Int × Int) : Value := .agg #[.int .i64 p.1, .int .i64 p.2]
theorem key2_inj {a b : Int × Int} (h : key2 a = key2 b) : a = b := by
 obtain ⟨x, y⟩ := a
 obtain ⟨u, v⟩ := b
 simpa [key2] using h
theorem underMap2 : Tryz.prog.underlying 117 = some (.map 181 4) := Tryz.underlying117
theorem laidOut2 : laidOutB Tryz.prog = true := by kernel_rfl
theorem row2Ok : (181 : TypeId) < Tryz.prog.types.size := of_decide_eq_true (by kernel_rfl)
theorem wide2 : (match Tryz.prog.underlying 181 with | some (.array _ _) | some (.struct _) => true | _ => false) = true := by rw [Tryz.underlying181]
set_option maxRecDepth 100000 in
theorem law2 : WideMaps.KeyLaw Tryz.prog 181 := deep_law_laid laidOut2 (m := 2) (by omega) row2Ok (by kernel_rfl) wide2
theorem keyed2 : Keyed Tryz.prog 181 := Keyed.of_law law2
theorem cells2Ok : Tryz.prog.cellsOf 181 = 2 := by kernel_rfl
theorem cellsI2 : Tryz.prog.cellsOf 2 = 1 := by kernel_rfl
theorem keyType2 : Tryz.prog.keyType 181 = true := by kernel_rfl
theorem zeroBool2 (w : World) : (zeroValue 4).run Tryz.prog w = .ok (.bool false) w := by kernel_rfl
theorem wf_small2 {n : Int} (h0 : -1 ≤ n) (h1 : n < 1000000) : (Lit.int .i64 n).wf = true := by
 have h2 : IntKind.i64.min = -9223372036854775808 := by decide
 have h3 : IntKind.i64.max = 9223372036854775807 := by decide
 show (decide (IntKind.i64.min ≤ n) && decide (n ≤ IntKind.i64.max)) = true
 rw [h2, h3, decide_eq_true (by omega), decide_eq_true (by omega)]
 rfl
set_option maxRecDepth 100000 in
theorem keyOf2 {q : Int × Int} (h : (-1 ≤ q.1 ∧ q.1 < 1000000) ∧ -1 ≤ q.2 ∧ q.2 < 1000000) : ∃ l, keyOf Tryz.prog 181 (key2 q) = some l := by
 obtain ⟨⟨a0, a1⟩, b0, b1⟩ := h
 have wa := wf_small2 a0 a1
 have wb := wf_small2 b0 b1
 obtain ⟨m, hm⟩ : ∃ m, Tryz.prog.types.size = m + 1 := ⟨_, Nat.succ_pred_eq_of_pos (Nat.lt_of_le_of_lt (Nat.zero_le _) row2Ok) |>.symm⟩
 refine ⟨.string (keyBytes [.int .i64 q.1, .int .i64 q.2]), ?_⟩
 unfold keyOf key2
 simp only [Tryz.underlying181]
 rw [if_pos (by simp [keyType2, Value.formed, Tryz.underlying181, cells2Ok]), hm]
 unfold Program.keyLits
 simp only [Tryz.underlying181, Value.cells]
 rw [if_pos (by rw [cells2Ok]; rfl), show List.range 2 = [0, 1] from rfl, List.mapM_cons, List.mapM_cons, List.mapM_nil]
 simp [cellsI2, Program.keyLits, Tryz.underlying2, wa, wb]

end Go.Proofs.YtpoleaekcjjedaaGreatDoor

namespace Go.Proofs.YtpoleaekcjjedaaGreatDoor
open Go Go.RowKit

theorem info_strG : (Tryz.prog.info? 9).map (fun i => (i.zero, i.size, i.bytes)) = some (some (.string ⟨#[]⟩), 1, 16) := by kernel_rfl

theorem GrowS_none (n : Nat) (w : World) (h0 : 0 < n) (h1 : n ≤ 2000) :
  Calls Tryz.prog 214 #[.slice none 0 0, .int .i64 n] w fun e w' => ∃ v, e = .returned v ∧ Below w.heap.size w w' ∧ w'.ownsRow w.heap.size 9 1 v 0 [] := by
 obtain ⟨i0, hi, hz0, hz1, hz2⟩ := info_parts info_strG
 refine (Tryz.slices_Grow_string i0 (.string ⟨#[]⟩) hi hz0 (by omega) none 0 0 n [] w (Nat.le_refl _) (by omega) (by rw [hz2]; omega) (by omega) (by simp) (fun _ => rfl) (fun a h => by cases h)).mono ?_
 rintro e w' ⟨rfl, rfl⟩
 refine ⟨_, rfl, ?_, rfl, .inr ⟨w.heap.size, _, _, rfl, Nat.le_refl _, heap_alloc_new w.drew _, Nat.zero_le _, grownCap_le_maxLen w (0 + n) 0 _ (by simp [maxLen]; omega), ?_, by simp⟩⟩
 ·exact (Below.refl _ w).drew.alloc (Nat.le_refl _) _
 ·have hge := grownCap_ge w (0 + n) 0 9
  simp only [Array.size_append, List.size_toArray, List.length_nil, size_zeroCells, show (Value.string ⟨#[]⟩).cells.size = 1 from rfl]
  omega

theorem src_cells {lo : Nat} {w : World} {a : Option Addr} {xs : List ByteArray} (h : RowK 1 encS lo w a xs) (hp : 0 < xs.length) : ∃ b o, a = some ⟨b, o, none⟩ ∧ b < w.heap.size ∧ ∀ j u, (txts xs)[j]? = some u → w.cell? ((⟨b, o, none⟩ : Addr).add j) = some u := by
 rcases h with h | ⟨b, o, rfl, -, hb, hc⟩
 ·omega
 ·refine ⟨b, o, rfl, hb, fun j u hj => ?_⟩
  unfold txts at hj
  rw [List.getElem?_map] at hj
  obtain ⟨x, hx, rfl⟩ := Option.map_eq_some_iff.1 hj
  obtain ⟨hlt, rfl⟩ := List.getElem?_eq_some_iff.1 hx
  have := hc j hlt 0 (by omega)
  rw [Addr.add_lit]
  simpa [encS] using this
theorem src_below {b o : Nat} {w w' : World} {us : List Value} (hb : b < w.heap.size) (h : ∀ j u, us[j]? = some u → w.cell? ((⟨b, o, none⟩ : Addr).add j) = some u) (hw : Below w.heap.size w w') : ∀ j u, us[j]? = some u → w'.cell? ((⟨b, o, none⟩ : Addr).add j) = some u := fun j u hj => by
 have := h j u hj
 rw [Addr.add_lit] at this ⊢
 exact keeps hw hb this

def upTo2 (xs ys : List ByteArray) (k : Nat) : List ByteArray := if k = 0 then [] else if k = 1 then xs else xs ++ ys

set_option maxRecDepth 100000 in
set_option maxHeartbeats 4000000 in
theorem ConcatS_two (lo : Nat) (lx ly : Value) (xs ys : List ByteArray) (w : World) (hx : SliceK 1 encS lo w lx xs) (hy : SliceK 1 encS lo w ly ys) (hxp : 0 < xs.length) (hyp : 0 < ys.length) (hn : xs.length + ys.length ≤ 1000)
  (b : Nat) (hb : Blk w b [lx, ly] 22) :
  Calls Tryz.prog 143 #[.slice (some ⟨b, 0, none⟩) 2 2] w fun e w' => ∃ v', e = .returned v' ∧ Below w.heap.size w w' ∧ OwnStrs w.heap.size w' v' (xs ++ ys) := by
 obtain ⟨ax, cx, rfl, hxc, hxm, hxr⟩ := hx
 obtain ⟨ay, cy, rfl, hyc, hym, hyr⟩ := hy
 obtain ⟨bx, ox, rfl, hbx, hcx⟩ := src_cells hxr hxp
 obtain ⟨by_, oy, rfl, hby, hcy⟩ := src_cells hyr hyp
 obtain ⟨n1, hn1⟩ : ∃ n1, n1 = xs.length := ⟨_, rfl⟩
 obtain ⟨n2, hn2⟩ : ∃ n2, n2 = ys.length := ⟨_, rfl⟩
 rw [← hn1] at hxp hn hxc hb
 rw [← hn2] at hyp hn hyc hb
 have HG := Lib.hid (fun w' => GrowS_none (n1 + n2) w' (by omega) (by omega))
 have HCX := Lib.hid hcx
 have HCY := Lib.hid hcy
 have HB := Lib.hid hb
 have HN1 := Lib.hid hn1
 have HN2 := Lib.hid hn2
 have c0 := hb.cell 0 rfl
 have c1 := hb.cell 1 rfl
 have hbl := hb.lt
 obtain ⟨i0, hi, hz0, hz1, hz2⟩ := info_parts info_strG
 clear hcx hcy hb hn1 hn2 hxr hyr
 go_enter Tryz.func143, Tryz.ntmps143
 go_wp2_with fail
 go_loopw [3, 11] (fun v3 v11 wr => wr = w ∧ ((v11 = .int .i64 0 ∧ v3 = .int .i64 0) ∨ (v11 = .int .i64 1 ∧ v3 = .int .i64 n1) ∨ (v11 = .int .i64 2 ∧ v3 = .int .i64 ((n1 + n2 : Nat) : Int)))) (fun _ v11 _ => 2 - (intOf v11).toNat)
 case atStart => exact ⟨rfl, .inl ⟨rfl, rfl⟩⟩
 case round =>
  obtain ⟨hww, ⟨rfl, rfl⟩ | ⟨rfl, rfl⟩ | ⟨rfl, rfl⟩⟩ := hrel
  all_goals (have hww2 := hww.symm; subst hww2; clear hww)
  ·go_wp2_with fail
   go_roundw
   case rel => exact ⟨by first | rfl | trivial, .inr (.inl ⟨by go_num, by go_num⟩)⟩
   case measure => simp [intOf]
  ·go_wp2_with fail
   go_roundw
   case rel => exact ⟨by first | rfl | trivial, .inr (.inr ⟨by go_num, by go_num⟩)⟩
   case measure => simp [intOf]
  ·clear c0 c1
   go_wp2_with fail
   refine Calls.mono (HG.out _) ?_
   rintro e w1 ⟨v, rfl, hb1, ho1⟩
   have HB1 := Lib.hid hb1
   have HO1 := Lib.hid ho1
   have hs1 := hb1.size
   clear hb1 ho1
   go_wp2_with fail
   go_loopw [6, 27] (fun v6 v27 wr => ∃ k : Nat, v27 = .int .i64 k ∧ k ≤ 2 ∧ Below w.heap.size w wr ∧ wr.ownsRow w.heap.size 9 1 v6 (upTo2 xs ys k).length (txts (upTo2 xs ys k))) (fun _ v27 _ => 2 - (intOf v27).toNat)
   case atStart => exact ⟨0, rfl, by omega, HB1.out, HO1.out⟩
   case round =>
    obtain ⟨k, rfl, hk, hbr, hor⟩ := hrel
    have HBR := Lib.hid hbr
    have HOR := Lib.hid hor
    have hsr := hbr.size
    rcases (show k = 0 ∨ k = 1 ∨ k = 2 by omega) with rfl | rfl | rfl
    ·have c0 := (HB.out.below hbr).cell 0 rfl
     have hsrc := Lib.hid (src_below hbx HCX.out hbr)
     clear hbr hor
     go_wp2_with (at_builtin; refine wpList_append_own_at _ rfl _ _ 22 rfl w.heap.size 9 i0 (.string ⟨#[]⟩) 1 16 Tryz.underlying22 hi hz0 hz1 hz2 rfl (by decide) _ _ _ rfl HOR.out ⟨bx, ox, none⟩ n1 cx (txts xs) rfl ?c1 hsrc.out ?c2 ?c3 ?c4 ?c5 ?_)
     case c1 => rw [txts_len, HN1.out]; omega
     case c2 => intro u hu; simp only [txts, List.mem_map] at hu; obtain ⟨x, -, rfl⟩ := hu; rfl
     case c3 => simp [upTo2, maxLen]; omega
     case c4 => simp [upTo2]; omega
     case c5 => omega
     intro v' w' ho' hg' _ _
     have HB' : Hid (Below w.heap.size w w') := HBR.out.grown hg' hsr (fun b e => (HOR.out.lt b e).1)
     have HO' : Hid (w'.ownsRow w.heap.size 9 1 v' (upTo2 xs ys 1).length (txts (upTo2 xs ys 1))) := by
      have h := ho'
      simp only [upTo2, if_true, List.length_nil, Nat.zero_add, txts, List.map_nil, List.nil_append] at h ⊢
      rw [HN1.out] at h
      exact h
     clear ho' hg'
     go_wp2
     go_roundw
     case rel => exact ⟨1, by go_num, by omega, HB'.out, HO'.out⟩
     case measure => simp [intOf]
    ·have c1 := (HB.out.below hbr).cell 1 rfl
     have hsrc := Lib.hid (src_below hby HCY.out hbr)
     clear hbr hor
     go_wp2_with (at_builtin; refine wpList_append_own_at _ rfl _ _ 22 rfl w.heap.size 9 i0 (.string ⟨#[]⟩) 1 16 Tryz.underlying22 hi hz0 hz1 hz2 rfl (by decide) _ _ _ rfl HOR.out ⟨by_, oy, none⟩ n2 cy (txts ys) rfl ?c1 hsrc.out ?c2 ?c3 ?c4 ?c5 ?_)
     case c1 => rw [txts_len, HN2.out]; omega
     case c2 => intro u hu; simp only [txts, List.mem_map] at hu; obtain ⟨x, -, rfl⟩ := hu; rfl
     case c3 => simp [upTo2, maxLen]; have := HN1.out; omega
     case c4 => simp [upTo2]; have := HN1.out; omega
     case c5 => omega
     intro v' w' ho' hg' _ _
     have HB' : Hid (Below w.heap.size w w') := HBR.out.grown hg' hsr (fun b e => (HOR.out.lt b e).1)
     have HO' : Hid (w'.ownsRow w.heap.size 9 1 v' (upTo2 xs ys 2).length (txts (upTo2 xs ys 2))) := by
      have h := ho'
      simp only [upTo2, if_true, if_neg (show ¬ (1 : Nat) = 0 by omega), if_neg (show ¬ (2 : Nat) = 0 by omega), if_neg (show ¬ (2 : Nat) = 1 by omega)] at h ⊢
      rw [HN2.out] at h
      unfold Hid
      rw [List.length_append]
      simpa [txts] using h
     clear ho' hg'
     go_wp2
     go_roundw
     case rel => exact ⟨2, by go_num, by omega, HB'.out, HO'.out⟩
     case measure => simp [intOf]
    ·clear hbr hor
     go_wp2
     go_ret
     exact ⟨_, rfl, HBR.out, HOR.out⟩

end Go.Proofs.YtpoleaekcjjedaaGreatDoor
