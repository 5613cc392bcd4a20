/-
  The implementation's isStable, stable.
  The implementation's isStable, stable, lacking, refuse.
  Traces of visible labels: the program's areLabels, areVisible; the reference's l12Visible.
  The program's AfterTrace, isSet and Refuses, where they answer.
  A deterministic system that was found, determinized once more, is itself. Plain.
  States from which an endless path of internal edges begins, and the first trace to one. Plain.
  A determinate system that does not diverge has the failures of its deterministic system; one that is not determinate refuses. Plain.
  What IsDeterminate names, where a system is not determinate: after the trace the label is refused, and the trace goes on with it. Plain.
  A slice less its first element, where its capacity is not known.
-/
import Derived.Test.YthofaoabgbgbdaaGreatDoorG16
import Derived.Test.YthofaoabgbgbdaaGreatDoorG6
import Derived.Deep.RegionHeld3
import Derived.Test.YthofaoabgbgbdaaGreatDoorG13
import Derived.Test.YthofaoabgbgbdaaGreatDoorG2
import Derived.Test.YthofaoabgbgbdaaGreatDoorG3
import Derived.Test.YthofaoabgbgbdaaGreatDoorG12
import Derived.Test.YthofaoabgbgbdaaGreatDoorG14
import Derived.Test.YthofaoabgbgbdaaGreatDoorG15
namespace Go.Proofs.YthofaoabgbgbdaaGreatDoor
open Go Go.RowKit

set_option maxRecDepth 100000 in
theorem isStable_any (lo : Nat) (t : Lts) (lv ev : Value) (s : Int) (w : World) (hv : Valid t) (hl : SliceK 1 encS lo w lv t.labels) (he : SliceK 3 encE lo w ev t.edges) :
  Calls Tryz.prog 106 #[.agg #[.int .i64 t.states, .int .i64 t.initial, lv, ev], .int .i64 s] w fun e w' => e = .returned (.bool (stableB t s)) ∧ Below w.heap.size w w' := by
 obtain ⟨wA, hwA⟩ : ∃ wA, wA = w.alloc (.cells #[.int .i64 t.states, .int .i64 t.initial, lv, ev] 27) := ⟨_, rfl⟩
 have hbA : Below w.heap.size w wA := by rw [hwA]; exact (Below.refl _ _).alloc (Nat.le_refl _) _
 have HR := Lib.hid (readyLabels_any lo t lv ev s wA hv (hl.below hbA) (he.below hbA))
 have HT := Lib.hid (tau_rdy hv s)
 have HBA := Lib.hid hbA
 have HWA := Lib.hid hwA
 clear hv hl he hbA hwA
 go_enter Tryz.func106, Tryz.ntmps106
 go_wp2_with fail
 rw [← HWA.out]
 refine Calls.mono HR.out ?_
 rintro e w1 ⟨v1, rfl, hb1, ho1⟩
 have HC := Lib.hid (Contains_strs wA.heap.size v1 tauT (rdy t s) w1 ho1.at)
 have hc : ((rdy t s).any fun y => y.toList == tauT.toList) = !stableB t s := HT.out
 rw [hc] at HC
 have HB1 := Lib.hid (HBA.out.trans (hb1.mono HBA.out.size))
 clear hb1 ho1 hc HR
 go_wp2_with fail
 refine Calls.mono HC.out ?_
 rintro e w2 ⟨rfl, rfl⟩
 go_wp2
 go_ret
 exact ⟨ret_bool (by simp), HB1.out⟩

set_option maxRecDepth 100000 in
theorem stable1_any (lo tb : Nat) (t : Lts) (lv ev : Value) (s : Int) (w : World) (hv : Valid t) (hl : SliceK 1 encS lo w lv t.labels) (he : SliceK 3 encE lo w ev t.edges) (ht : Blk w tb [.int .i64 t.states, .int .i64 t.initial, lv, ev] 27) :
  Calls Tryz.prog 105 #[.int .i64 s, .pointer (some ⟨tb, 0, none⟩)] w fun e w' => e = .returned (.bool (!stableB t s)) ∧ Below w.heap.size w w' := by
 have HS := Lib.hid (isStable_any lo t lv ev s w hv hl he)
 have x0 := ht.cell 0 rfl
 have x1 := ht.cell 1 rfl
 have x2 := ht.cell 2 rfl
 have x3 := ht.cell 3 rfl
 clear hv hl he ht
 go_enter Tryz.func105, Tryz.ntmps105
 go_wp2_with fail
 refine Calls.mono HS.out ?_
 rintro e w1 ⟨rfl, hb1⟩
 have HB1 := Lib.hid hb1
 clear hb1 HS
 go_wp2
 go_ret
 exact ⟨rfl, HB1.out⟩

set_option maxRecDepth 100000 in
theorem stable_any (lo lo2 : Nat) (t : Lts) (lv ev sv : Value) (S : List Int) (w : World) (hv : Valid t) (hl : SliceK 1 encS lo w lv t.labels) (he : SliceK 3 encE lo w ev t.edges) (hs : SliceK 1 encI lo2 w sv S) (hz : S.length ≤ 1048576) :
  Calls Tryz.prog 59 #[.agg #[.int .i64 t.states, .int .i64 t.initial, lv, ev], sv] w (MadeNums (stabs t S) w) := by
 obtain ⟨tb, htb⟩ : ∃ tb, tb = w.heap.size := ⟨_, rfl⟩
 obtain ⟨wA, hwA⟩ : ∃ wA, wA = w.alloc (.cells #[.int .i64 t.states, .int .i64 t.initial, lv, ev] 27) := ⟨_, rfl⟩
 have hbA : Below w.heap.size w wA := by rw [hwA]; exact (Below.refl _ _).alloc (Nat.le_refl _) _
 have hT : Blk wA tb [.int .i64 t.states, .int .i64 t.initial, lv, ev] 27 := by rw [hwA, htb]; exact Blk.new w _ _
 have HCL := Lib.hid (Clone_own lo2 sv S wA (hs.below hbA) hz)
 have HV := Lib.hid hv
 have HL := Lib.hid (hl.below hbA)
 have HE := Lib.hid (he.below hbA)
 have HT := Lib.hid hT
 have HBA := Lib.hid hbA
 have HWA := Lib.hid hwA
 have HTB := Lib.hid htb
 clear hv hl he hs hbA hT hwA htb
 go_enter Tryz.func59, Tryz.ntmps59
 go_wp2_with fail
 rw [← HWA.out]
 try rw [← HTB.out]
 refine Calls.mono HCL.out ?_
 rintro e w1 ⟨v1, rfl, ho1, hb1⟩
 have HDF := Lib.hid (DeleteFuncI wA.heap.size v1 S 105 #[.pointer (some ⟨tb, 0, none⟩)] (fun x => !stableB t x) wA w1 ho1 hb1 hb1.size (fun args w => by kernel_rfl) fun w' hb x _ => stable1_any lo tb t lv ev x w' HV.out (HL.out.below hb) (HE.out.below hb) (HT.out.below hb))
 have hf : (S.filter fun x => !(!stableB t x)) = stabs t S := by unfold stabs; congr 1; funext x; exact Bool.not_not _
 rw [hf] at HDF
 clear ho1 hb1 hf HCL
 go_wp2_with fail
 refine Calls.mono HDF.out ?_
 rintro e w2 ⟨v2, rfl, hb2, ho2⟩
 have HB2 := Lib.hid (HBA.out.trans (hb2.mono HBA.out.size))
 have HO2 := Lib.hid (own_lower ho2 HBA.out.size)
 clear hb2 ho2 HDF
 go_wp2
 go_ret
 exact ⟨_, rfl, HB2.out, HO2.out⟩

end Go.Proofs.YthofaoabgbgbdaaGreatDoor

namespace Go.Proofs.YthofaoabgbgbdaaGreatDoor
open Go Go.RowKit

/-- A state refuses a set: no label of it is ready. -/
def refusesAll (t : Lts) (set : List ByteArray) (k : Int) : Bool := decide ((lackL set (rdy t k)).length = set.length)
theorem refusesAll_one (t : Lts) (l : ByteArray) (k : Int) : refusesAll t [l] k = !inT (rdy t k) l := by
 unfold refusesAll lackL
 rw [List.filter_cons, List.filter_nil]
 cases inT (rdy t k) l <;> simp

set_option maxRecDepth 100000 in
set_option maxHeartbeats 1000000 in
theorem refuse1_any (lo lo2 tb sb : Nat) (t : Lts) (lv ev sv : Value) (set : List ByteArray) (k : Int) (w : World) (hv : Valid t) (hl : SliceK 1 encS lo w lv t.labels) (he : SliceK 3 encE lo w ev t.edges) (hs : SliceK 1 encS lo2 w sv set) (hz : set.length ≤ 1000)
  (ht : Blk w tb [.int .i64 t.states, .int .i64 t.initial, lv, ev] 27) (hsb : Blk w sb [sv] 24) :
  Calls Tryz.prog 60 #[.int .i64 k, .pointer (some ⟨sb, 0, none⟩), .pointer (some ⟨tb, 0, none⟩)] w fun e w' => e = .returned (.bool (refusesAll t set k)) ∧ Below w.heap.size w w' := by
 obtain ⟨sa, sc, rfl, -, -, -⟩ := id hs
 have HL := Lib.hid hl
 have HE := Lib.hid he
 have HV := Lib.hid hv
 have HSV := Lib.hid hs
 obtain ⟨SN, hSN⟩ : ∃ SN, SN = set.length := ⟨_, rfl⟩
 have HSN := Lib.hid hSN
 rw [← hSN] at hsb hz HSV
 have HSB := Lib.hid hsb
 have HTB := Lib.hid ht
 have hD : Below w.heap.size w w.drew := (Below.refl _ _).drew
 have HSW : Hid (∀ w', Below w.heap.size w w' → w'.cell? ⟨sb, 0, none⟩ = some (.slice sa SN sc) ∧ w'.cell? ⟨tb, 0, none⟩ = some (.int .i64 t.states) ∧ w'.cell? ⟨tb, 1, none⟩ = some (.int .i64 t.initial) ∧ w'.cell? ⟨tb, 2, none⟩ = some lv ∧ w'.cell? ⟨tb, 3, none⟩ = some ev) := fun w' hb =>
  ⟨(HSB.out.below hb).cell 0 rfl, (HTB.out.below hb).cell 0 rfl, (HTB.out.below hb).cell 1 rfl, (HTB.out.below hb).cell 2 rfl, (HTB.out.below hb).cell 3 rfl⟩
 have HD := Lib.hid hD
 have HRL := Lib.hid (readyLabels_any lo t lv ev k w.drew hv (hl.below hD) (he.below hD))
 have HLK : Hid (∀ w' v, Below w.heap.size w w' → SliceK 1 encS w.drew.heap.size w' v (rdy t k) → Calls Tryz.prog 61 #[.slice sa SN sc, v] w' (MadeTxI (lackL set (rdy t k)) w')) := fun w' v hb h => lacking_any lo2 _ _ v set (rdy t k) w' (HSV.out.below hb) h (by rw [← HSN.out]; omega)
 have hle : (lackL set (rdy t k)).length ≤ SN := by rw [hSN]; exact List.length_filter_le _ _
 have HRF : Hid (refusesAll t set k = (((lackL set (rdy t k)).length : Int) == (SN : Int))) := by
  unfold Hid refusesAll
  rw [← HSN.out, Bool.eq_iff_iff, decide_eq_true_eq, beq_iff_eq]
  omega
 obtain ⟨KN, hKN⟩ : ∃ KN, KN = (lackL set (rdy t k)).length := ⟨_, rfl⟩
 rw [← hKN] at HRF hle
 have HKN := Lib.hid hKN
 clear hv hl he hs ht hsb hD hSN hKN
 go_enter Tryz.func60, Tryz.ntmps60
 go_wp2
 go_region_held3 (fun w' => w'.cell? ⟨sb, 0, none⟩ = some (.slice sa SN sc) ∧ w'.cell? ⟨tb, 0, none⟩ = some (.int .i64 t.states) ∧ w'.cell? ⟨tb, 1, none⟩ = some (.int .i64 t.initial) ∧ w'.cell? ⟨tb, 2, none⟩ = some lv ∧ w'.cell? ⟨tb, 3, none⟩ = some ev)
  (first
   | exact HSW.out _ HD.out
   | exact HSW.out _ hq1
   | exact HSW.out _ hq2
   | go_keep)
  (first
   | (go_at_call 62; refine Calls.mono HRL.out ?_; rintro e w1 ⟨v1, rfl, hb1, ho1⟩; have hq1 : Below w.heap.size w w1 := HD.out.trans (hb1.mono (by simp)))
   | (go_at_call 61; refine Calls.mono (HLK.out _ _ hq1 ho1.at) ?_; rintro e w2 ⟨v2, rfl, hb2, ho2⟩; obtain ⟨a2, c2, rfl, -, -⟩ := owns_slice ho2; rw [← HKN.out]; have hq2 : Below w.heap.size w w2 := hq1.trans (hb2.mono hq1.size))
   | fail)
 all_goals (
  have HQ := Lib.hid hq2
  clear hb1 ho1 hq1 hb2 ho2 hq2
  go_wp2
  go_ret
  exact ⟨ret_bool HRF.out.symm, HQ.out⟩)

set_option maxRecDepth 100000 in
set_option maxHeartbeats 1000000 in
theorem refuse_any (lo lo2 lo3 : Nat) (t : Lts) (lv ev sv tv : Value) (S : List Int) (set : List ByteArray) (w : World) (hv : Valid t) (hl : SliceK 1 encS lo w lv t.labels) (he : SliceK 3 encE lo w ev t.edges) (hs : SliceK 1 encI lo2 w sv S) (ht : SliceK 1 encS lo3 w tv set) (hz : S.length ≤ 1048576) (hz2 : set.length ≤ 1000) :
  Calls Tryz.prog 25 #[.agg #[.int .i64 t.states, .int .i64 t.initial, lv, ev], sv, tv] w fun e w' => e = .returned (.bool ((stabs t S).any (refusesAll t set))) ∧ Below w.heap.size w w' := by
 obtain ⟨tb, htb⟩ : ∃ tb, tb = w.heap.size := ⟨_, rfl⟩
 obtain ⟨wA, hwA⟩ : ∃ wA, wA = (w.alloc (.cells #[.int .i64 t.states, .int .i64 t.initial, lv, ev] 27)).alloc (.cells #[tv] 24) := ⟨_, rfl⟩
 have hbA : Below w.heap.size w wA := by rw [hwA]; exact ((Below.refl _ _).alloc (Nat.le_refl _) _).alloc (by simp) _
 have hT : Blk wA tb [.int .i64 t.states, .int .i64 t.initial, lv, ev] 27 := by rw [hwA, htb]; exact (Blk.new w _ _).alloc _
 have hX : Blk wA (tb + 1) [tv] 24 := by
  have h := Blk.new (w.alloc (.cells #[.int .i64 t.states, .int .i64 t.initial, lv, ev] 27)) [tv] 24
  rw [World.size_alloc, ← htb] at h
  rw [hwA]
  exact h
 have HST := Lib.hid (stable_any lo lo2 t lv ev sv S wA hv (hl.below hbA) (he.below hbA) (hs.below hbA) hz)
 have HV := Lib.hid hv
 have HL := Lib.hid (hl.below hbA)
 have HE := Lib.hid (he.below hbA)
 have HTV := Lib.hid (ht.below hbA)
 have HT := Lib.hid hT
 have HX := Lib.hid hX
 have HBA := Lib.hid hbA
 have HWA := Lib.hid hwA
 have HTB := Lib.hid htb
 obtain ⟨xa, xc, rfl, -, -, -⟩ := ht
 clear hv hl he hs hbA hT hX hwA htb
 go_enter Tryz.func25, Tryz.ntmps25
 go_wp2_with fail
 rw [← HWA.out]
 try rw [← HTB.out]
 refine Calls.mono HST.out ?_
 rintro e w1 ⟨v1, rfl, hb1, ho1⟩
 have hs1 : SliceK 1 encI wA.heap.size w1 v1 (stabs t S) := SliceK.of_owns (e := 2) encI_len rfl (by rw [flat_encI]; exact ho1)
 have HCF := Lib.hid (ContainsFuncI wA.heap.size v1 (stabs t S) 60 #[.pointer (some ⟨tb + 1, 0, none⟩), .pointer (some ⟨tb, 0, none⟩)] (refusesAll t set) w1 hs1 (fun args w => by kernel_rfl)
  fun w' hb x _ => refuse1_any lo lo3 tb (tb + 1) t lv ev _ set x w' HV.out (HL.out.below (hb1.trans (hb.mono hb1.size))) (HE.out.below (hb1.trans (hb.mono hb1.size))) (HTV.out.below (hb1.trans (hb.mono hb1.size))) hz2 (HT.out.below (hb1.trans (hb.mono hb1.size))) (HX.out.below (hb1.trans (hb.mono hb1.size))))
 have HB1 := Lib.hid (HBA.out.trans (hb1.mono HBA.out.size))
 clear hb1 ho1 hs1 HST
 go_wp2_with fail
 refine Calls.mono HCF.out ?_
 rintro e w2 ⟨rfl, hb2⟩
 have HB2 := Lib.hid (HB1.out.trans (hb2.mono HB1.out.size))
 clear hb2 HCF
 go_wp2
 go_ret
 exact ⟨rfl, HB2.out⟩

end Go.Proofs.YthofaoabgbgbdaaGreatDoor

namespace Go.Proofs.YthofaoabgbgbdaaGreatDoor
open Go Go.RowKit


theorem ContainsFuncV (lo : Nat) (v : Value) (xs : List ByteArray) (fid : Nat) (caps : Array Value) (P : ByteArray → Bool) (w : World) (hv : SliceK 1 encS lo w v xs) (eg : ∀ args w, (callFunc fid args).run Tryz.prog w = .ok (.enter fid args) w) (hP : AskS fid caps P xs w.heap.size w) :
  Calls Tryz.prog 102 #[v, .func (.func fid) #[] caps] w fun e w' => e = .returned (.bool (xs.any P)) ∧ Below w.heap.size w w' := by
 have HC := Lib.hid (IndexFuncS lo v xs fid caps P w hv eg hP)
 clear hP
 go_enter Tryz.func102, Tryz.ntmps102
 go_wp2_with fail
 refine Calls.mono HC.out ?_
 rintro e w' ⟨rfl, hb⟩
 have HB := Lib.hid hb
 clear hb
 go_wp2_with fail
 go_ret
 exact ⟨ret_bool idxS_any, HB.out⟩

def tauV : ByteArray := ⟨#[116, 97, 117]⟩
theorem tauV_list : tauV.toList = [116, 97, 117] := by rw [Lib.toList_data]; rfl
def visOne (s : ByteArray) : Bool := labelOk s.data.toList && !(s.toList == tauV.toList)
/-- All labels are visible ones. -/
def visB (ss : List ByteArray) : Bool := ss.all visOne
theorem vis_two (ss : List ByteArray) : ((!ss.any fun s => !labelOk s.data.toList) && !(ss.any fun y => y.toList == tauV.toList)) = visB ss := by
 unfold visB visOne
 induction ss with
 | nil => rfl
 | cons x ss ih =>
  rw [List.all_cons, List.any_cons, List.any_cons, ← ih]
  cases labelOk x.data.toList <;> cases (x.toList == tauV.toList) <;> simp

theorem labs1_any (s : ByteArray) (w : World) (hs : s.size ≤ 1048576) (g : Glob w) : Calls Tryz.prog 103 #[.string s] w fun e w' => e = .returned (.bool (!labelOk s.data.toList)) ∧ Below w.heap.size w w' := by
 have HC := Lib.hid (IsLabel_is (s := s) rfl w hs g)
 go_enter Tryz.func103, Tryz.ntmps103
 go_wp2_with fail
 refine Calls.mono HC.out ?_
 rintro e w' ⟨rfl, hb⟩
 have HB := Lib.hid hb
 clear hb
 go_wp2
 go_ret
 exact ⟨rfl, HB.out⟩
theorem areLabels_any (lo : Nat) (v : Value) (ss : List ByteArray) (w : World) (hsh : Short20 ss) (hv : SliceK 1 encS lo w v ss) (g : Glob w) : Calls Tryz.prog 57 #[v] w fun e w' => e = .returned (.bool (!ss.any fun s => !labelOk s.data.toList)) ∧ Below w.heap.size w w' := by
 have HC := Lib.hid (ContainsFuncV lo v ss 103 #[] (fun s => !labelOk s.data.toList) w hv (fun args w => by kernel_rfl) fun w' hb x hx => labs1_any x w' (by obtain ⟨i, hi, rfl⟩ := List.mem_iff_getElem.1 hx; exact hsh i hi) (g.below hb))
 clear hsh hv g
 go_enter Tryz.func57, Tryz.ntmps57
 go_wp2_with fail
 refine Calls.mono HC.out ?_
 rintro e w' ⟨rfl, hb⟩
 have HB := Lib.hid hb
 clear hb
 go_wp2
 go_ret
 exact ⟨rfl, HB.out⟩
theorem areVisible_any (lo : Nat) (v : Value) (ss : List ByteArray) (w : World) (hsh : Short20 ss) (hv : SliceK 1 encS lo w v ss) (g : Glob w) : Calls Tryz.prog 23 #[v] w fun e w' => e = .returned (.bool (visB ss)) ∧ Below w.heap.size w w' := by
 have HC := Lib.hid (areLabels_any lo v ss w hsh hv g)
 have HT := Lib.hid (fun w' (hb : Below w.heap.size w w') => Contains_strs lo v tauV ss w' (hv.below hb))
 obtain ⟨b1, hb1⟩ : ∃ b, b = (!ss.any fun s => !labelOk s.data.toList) := ⟨_, rfl⟩
 obtain ⟨b2, hb2⟩ : ∃ b, b = (ss.any fun y => y.toList == tauV.toList) := ⟨_, rfl⟩
 have HV : Hid ((b1 && !b2) = visB ss) := by unfold Hid; rw [hb1, hb2]; exact vis_two ss
 rw [← hb1] at HC
 rw [← hb2] at HT
 clear hsh hv g hb1 hb2
 go_enter Tryz.func23, Tryz.ntmps23
 go_wp2_with fail
 refine Calls.mono HC.out ?_
 rintro e w' ⟨rfl, hb⟩
 have HB := Lib.hid hb
 clear hb HC
 cases b1
 ·go_wp2
  go_ret
  exact ⟨ret_bool HV.out, HB.out⟩
 ·go_wp2_with fail
  refine Calls.mono (HT.out _ HB.out) ?_
  rintro e w'' ⟨rfl, rfl⟩
  go_wp2
  go_ret
  exact ⟨ret_bool HV.out, HB.out⟩

end Go.Proofs.YthofaoabgbgbdaaGreatDoor

namespace Go.Proofs.YthofaoabgbgbdaaGreatDoor
open Go Go.RowKit


set_option maxRecDepth 100000 in
set_option maxHeartbeats 2000000 in
theorem AfterTrace_yes (lo lo2 : Nat) (t : Lts) (lv ev tv : Value) (tr : List ByteArray) (w : World) (hv : Valid t) (hvis : visB tr = true) (hne : aftL t tr ≠ []) (hsh : Short20 t.labels) (hst : Short20 tr) (hz : tr.length ≤ 100000) (hl : SliceK 1 encS lo w lv t.labels) (he : SliceK 3 encE lo w ev t.edges) (ht : SliceK 1 encS lo2 w tv tr) (g : Glob w) :
  Calls Tryz.prog 9 #[.agg #[.int .i64 t.states, .int .i64 t.initial, lv, ev], tv] w fun e w' => ∃ v, e = .returned (.tuple #[v, .int .i64 0]) ∧ Below w.heap.size w w' ∧ w'.ownsRow w.heap.size 2 1 v (aftL t tr).length ((aftL t tr).map (Value.int .i64)) := by
 obtain ⟨tb, htb⟩ : ∃ tb, tb = w.heap.size := ⟨_, rfl⟩
 obtain ⟨W, hW⟩ : ∃ W, W = w.alloc (.cells #[.int .i64 t.states, .int .i64 t.initial, lv, ev] 27) := ⟨_, rfl⟩
 have hb : Below w.heap.size w W := by rw [hW]; exact (Below.refl _ _).alloc (Nat.le_refl _) _
 have hT : Blk W tb [.int .i64 t.states, .int .i64 t.initial, lv, ev] 27 := by rw [hW, htb]; exact Blk.new _ _ _
 have HVA := Lib.hid (Decides.yes (ValidLts_any lo t lv ev W hsh (hl.below hb) (he.below hb) (g.below hb)) hv)
 have HL := Lib.hid (hl.below hb)
 have HE := Lib.hid (he.below hb)
 have HT := Lib.hid (ht.below hb)
 have HG := Lib.hid (g.below hb)
 have HX := Lib.hid hT
 have HB := Lib.hid hb
 have hsW : w.heap.size ≤ W.heap.size := hb.size
 have HV := Lib.hid hv
 have HST := Lib.hid hst
 have HNE := Lib.hid hne
 have HVIS := Lib.hid hvis
 have HW := Lib.hid hW
 have HTB := Lib.hid htb
 have x0 := hT.cell 0 rfl
 have x1 := hT.cell 1 rfl
 have x2 := hT.cell 2 rfl
 have x3 := hT.cell 3 rfl
 clear hv hvis hne hsh hst hl he ht g hT hb hW htb
 go_enter Tryz.func9, Tryz.ntmps9
 go_wp2_with fail
 rw [← HW.out]
 try rw [← HTB.out]
 refine Calls.mono HVA.out ?_
 rintro e w1 ⟨rfl, hb1⟩
 have HB1 := Lib.hid hb1
 have HAV := Lib.hid (areVisible_any lo2 tv tr w1 HST.out (HT.out.below hb1) (HG.out.below hb1))
 have y0 := (HX.out.below hb1).cell 0 rfl
 clear hb1 HVA x0 x1 x2 x3 y0
 go_wp2_with fail
 refine Calls.mono HAV.out ?_
 rintro e w2 ⟨rfl, hb2⟩
 rw [HVIS.out]
 have HB2 := Lib.hid (HB1.out.trans (hb2.mono HB1.out.size))
 have HX2 := Lib.hid (HX.out.below HB2.out)
 have x0 := HX2.out.cell 0 rfl
 have x1 := HX2.out.cell 1 rfl
 have x2 := HX2.out.cell 2 rfl
 have x3 := HX2.out.cell 3 rfl
 have HAF := Lib.hid (after_any lo lo2 t lv ev tv tr w2 HV.out (HL.out.below HB2.out) (HE.out.below HB2.out) (HT.out.below HB2.out) hz)
 clear hb2 HAV
 try rw [← HTB.out]
 go_wp2_with fail
 refine Calls.mono HAF.out ?_
 rintro e w3 ⟨v, rfl, hb3, ho3⟩
 obtain ⟨va, vc, rfl, -, -⟩ := owns_slice ho3
 have HB3 := Lib.hid (HB.out.trans ((HB2.out.trans (hb3.mono HB2.out.size)).mono hsW))
 have HO3 := Lib.hid (own_lower ho3 (Nat.le_trans hsW HB2.out.size))
 have hpos : 0 < (aftL t tr).length := List.length_pos_iff.2 HNE.out
 obtain ⟨A, hA⟩ : ∃ A, A = (aftL t tr).length := ⟨_, rfl⟩
 rw [← hA] at hpos HO3 ⊢
 have hnp : ¬ (A : Int) = 0 := by omega
 have hnz : ((A : Int) == 0) = false := beq_eq_false_iff_ne.2 hnp
 have HA := Lib.hid hA
 clear hb3 ho3 HAF x0 x1 x2 x3 hA
 go_wp2
 go_ret2
 exact ⟨_, rfl, HB3.out, by rw [← HA.out]; exact HO3.out⟩

set_option maxRecDepth 100000 in
set_option maxHeartbeats 2000000 in
theorem isSet_one (lo : Nat) (v : Value) (s : ByteArray) (w : World) (hvis : visB [s] = true) (hsh : Short20 [s]) (hv : SliceK 1 encS lo w v [s]) (g : Glob w) :
  Calls Tryz.prog 24 #[v] w fun e w' => e = .returned (.bool true) ∧ Below w.heap.size w w' := by
 have HAV := Lib.hid (fun w' (hb : Below w.heap.size w w') => areVisible_any lo v [s] w' hsh (hv.below hb) (g.below hb))
 have HVIS := Lib.hid hvis
 obtain ⟨a, cap, rfl, hn, hcap, hrow⟩ := hv
 clear hvis hsh g
 simp only [List.length_singleton] at hn
 go_enter Tryz.func24, Tryz.ntmps24
 go_wp2_with fail
 go_loopw [7] (fun i wr => ∃ k : Nat, k ≤ 1 ∧ i = .int .i64 k ∧ Below w.heap.size w wr) (fun i _ => 1 - (intOf i).toNat)
 case atStart => exact ⟨0, Nat.zero_le _, rfl, Below.refl _ _⟩
 case round =>
  obtain ⟨k, hk, rfl, hbl⟩ := hrel
  have HBL := Lib.hid hbl
  by_cases hlt : k < 1
  ·have hk0 : k = 0 := by omega
   subst hk0
   obtain ⟨b, o, rfl, -, hb, c⟩ := (hrow.below hbl).one (i := 0) (by simp)
   simp only [encS, List.getElem?_cons_zero, Nat.add_zero, List.getElem_cons_zero] at c
   clear hrow hbl
   go_wp2
   go_roundw
   case rel => exact ⟨1, by omega, by go_num, HBL.out⟩
   case measure => simp [intOf]
  ·have hk1 : k = 1 := by omega
   subst hk1
   have HAV1 := Lib.hid (HAV.out _ hbl)
   clear hrow hbl
   go_wp2_with fail
   refine Calls.mono HAV1.out ?_
   rintro e w2 ⟨rfl, hb2⟩
   rw [HVIS.out]
   have HB2 := Lib.hid (HBL.out.trans (hb2.mono HBL.out.size))
   clear hb2 HAV1
   go_wp2
   go_ret
   exact ⟨rfl, HB2.out⟩

set_option maxRecDepth 100000 in
set_option maxHeartbeats 2000000 in
theorem Refuses_one (lo lo2 lo3 : Nat) (t : Lts) (lv ev tv sv : Value) (tr : List ByteArray) (s : ByteArray) (w : World) (hv : Valid t) (hvis : visB tr = true) (hvs : visB [s] = true) (hne : aftL t tr ≠ []) (href : (stabs t (aftL t tr)).any (fun k => !inT (rdy t k) s) = true) (hsh : Short20 t.labels) (hst : Short20 tr) (hss : Short20 [s]) (hz : tr.length ≤ 100000) (hfew : (aftL t tr).length ≤ 1048576)
  (hl : SliceK 1 encS lo w lv t.labels) (he : SliceK 3 encE lo w ev t.edges) (ht : SliceK 1 encS lo2 w tv tr) (hs : SliceK 1 encS lo3 w sv [s]) (g : Glob w) :
  Calls Tryz.prog 10 #[.agg #[.int .i64 t.states, .int .i64 t.initial, lv, ev], tv, sv] w fun e w' => e = .returned (.tuple #[.bool true, .int .i64 0]) ∧ Below w.heap.size w w' := by
 obtain ⟨tb, htb⟩ : ∃ tb, tb = w.heap.size := ⟨_, rfl⟩
 obtain ⟨W, hW⟩ : ∃ W, W = w.alloc (.cells #[.int .i64 t.states, .int .i64 t.initial, lv, ev] 27) := ⟨_, rfl⟩
 have hb : Below w.heap.size w W := by rw [hW]; exact (Below.refl _ _).alloc (Nat.le_refl _) _
 have hT : Blk W tb [.int .i64 t.states, .int .i64 t.initial, lv, ev] 27 := by rw [hW, htb]; exact Blk.new _ _ _
 have HVA := Lib.hid (Decides.yes (ValidLts_any lo t lv ev W hsh (hl.below hb) (he.below hb) (g.below hb)) hv)
 have HL := Lib.hid (hl.below hb)
 have HE := Lib.hid (he.below hb)
 have HT := Lib.hid (ht.below hb)
 have HS := Lib.hid (hs.below hb)
 have HG := Lib.hid (g.below hb)
 have HX := Lib.hid hT
 have HB := Lib.hid hb
 have hsW : w.heap.size ≤ W.heap.size := hb.size
 have HV := Lib.hid hv
 have HSH := Lib.hid hsh
 have HST := Lib.hid hst
 have HSS := Lib.hid hss
 have HNE := Lib.hid hne
 have HVIS := Lib.hid hvis
 have HVS := Lib.hid hvs
 have HRF : Hid ((stabs t (aftL t tr)).any (refusesAll t [s]) = true) := by
  unfold Hid
  rw [List.any_eq_true] at href ⊢
  obtain ⟨k, hk, h⟩ := href
  exact ⟨k, hk, by rw [refusesAll_one]; exact h⟩
 have HW := Lib.hid hW
 have HTB := Lib.hid htb
 have x0 := hT.cell 0 rfl
 have x1 := hT.cell 1 rfl
 have x2 := hT.cell 2 rfl
 have x3 := hT.cell 3 rfl
 clear hv hvis hvs hne href hsh hst hss hl he ht hs g hT hb hW htb
 go_enter Tryz.func10, Tryz.ntmps10
 go_wp2_with fail
 rw [← HW.out]
 try rw [← HTB.out]
 refine Calls.mono HVA.out ?_
 rintro e w1 ⟨rfl, hb1⟩
 have HB1 := Lib.hid hb1
 have HAV := Lib.hid (areVisible_any lo2 tv tr w1 HST.out (HT.out.below hb1) (HG.out.below hb1))
 clear hb1 HVA x0 x1 x2 x3
 go_wp2_with fail
 refine Calls.mono HAV.out ?_
 rintro e w2 ⟨rfl, hb2⟩
 rw [HVIS.out]
 have HB2 := Lib.hid (HB1.out.trans (hb2.mono HB1.out.size))
 have HSE := Lib.hid (isSet_one lo3 sv s w2 HVS.out HSS.out (HS.out.below HB2.out) (HG.out.below HB2.out))
 clear hb2 HAV HB1
 go_wp2_with fail
 refine Calls.mono HSE.out ?_
 rintro e w3 ⟨rfl, hb3⟩
 have HB3 := Lib.hid (HB2.out.trans (hb3.mono HB2.out.size))
 have HX3 := Lib.hid (HX.out.below HB3.out)
 have x0 := HX3.out.cell 0 rfl
 have x1 := HX3.out.cell 1 rfl
 have x2 := HX3.out.cell 2 rfl
 have x3 := HX3.out.cell 3 rfl
 have HAF := Lib.hid (AfterTrace_yes lo lo2 t lv ev tv tr w3 HV.out HVIS.out HNE.out HSH.out HST.out hz (HL.out.below HB3.out) (HE.out.below HB3.out) (HT.out.below HB3.out) (HG.out.below HB3.out))
 clear hb3 HSE HB2
 try rw [← HTB.out]
 go_wp2_with fail
 refine Calls.mono HAF.out ?_
 rintro e w4 ⟨v, rfl, hb4, ho4⟩
 obtain ⟨va, vc, rfl, -, -⟩ := owns_slice ho4
 have HB4 := Lib.hid (HB3.out.trans (hb4.mono HB3.out.size))
 have HX4 := Lib.hid (HX.out.below HB4.out)
 have HA4 := Lib.hid (SliceK.of_owns (enc := encI) (e := 2) encI_len rfl (by rw [flat_encI]; exact ho4))
 have HRU := Lib.hid (refuse_any lo _ lo3 t lv ev _ sv (aftL t tr) [s] w4 HV.out (HL.out.below HB4.out) (HE.out.below HB4.out) HA4.out (HS.out.below HB4.out) hfew (by simp))
 rw [HRF.out] at HRU
 clear hb4 ho4 HAF x0 x1 x2 x3 HX3 HB3
 have x0 := HX4.out.cell 0 rfl
 have x1 := HX4.out.cell 1 rfl
 have x2 := HX4.out.cell 2 rfl
 have x3 := HX4.out.cell 3 rfl
 go_wp2_with fail
 refine Calls.mono HRU.out ?_
 rintro e w5 ⟨rfl, hb5⟩
 have HB5 := Lib.hid (HB.out.trans ((HB4.out.trans (hb5.mono HB4.out.size)).mono hsW))
 clear hb5 HRU
 go_wp2
 go_ret2
 exact ⟨rfl, HB5.out⟩

end Go.Proofs.YthofaoabgbgbdaaGreatDoor

namespace Go.Proofs.YthofaoabgbgbdaaGreatDoor
open Go Go.RowKit

/-- The sets of one state each. -/
def ones (n : Nat) : List (List Int) := (List.range n).map fun (i : Nat) => [(i : Int)]
theorem ones_len (n : Nat) : (ones n).length = n := by simp [ones]
theorem ones_get {n i : Nat} (h : i < n) : (ones n)[i]? = some [(i : Int)] := by simp [ones, h]
theorem ones_succ (n : Nat) : ones (n + 1) = ones n ++ [[(n : Int)]] := by simp [ones, List.range_succ]
theorem ones_nodup (n : Nat) : (ones n).Nodup := by
 rw [List.nodup_iff_pairwise_ne, ones, List.pairwise_map]
 refine List.pairwise_lt_range.imp fun {a b} h e => ?_
 have := (List.cons.inj e).1
 omega
theorem ones_place {n i : Nat} (h : i < n) : dplace (ones n) [(i : Int)] = i :=
 dplace_eq (ones_nodup n) (by rw [ones_len]; exact h) (by simp [ones])
theorem ones_new (n : Nat) : dplace (ones n) [(n : Int)] = n := by
 have h1 := dplace_le (ones n) [(n : Int)]
 rw [ones_len] at h1
 rcases Nat.lt_or_ge (dplace (ones n) [(n : Int)]) n with h | h
 ·exfalso
  have h2 := dplace_get (rows := ones n) (q := [(n : Int)]) (by rw [ones_len]; exact h)
  have h3 : (ones n)[dplace (ones n) [(n : Int)]]? = some [((dplace (ones n) [(n : Int)] : Nat) : Int)] := ones_get h
  rw [List.getElem?_eq_getElem (by rw [ones_len]; exact h), h2] at h3
  have := (List.cons.inj (Option.some.inj h3)).1
  omega
 ·omega

theorem dd_clos {t : Lts} {st : DNet} (hv : Valid t) (h : DOk t st) {S : Int → Prop} {x : Int} : clos (dSys t st) S x ↔ S x := by
 constructor
 ·intro hx
  refine hx.least (Q := S) (fun _ h => h) fun e he hl => ?_
  have := (dok_good hv h).edges e he
  omega
 ·exact clos.base
theorem dd_first {t : Lts} {st : DNet} (hv : Valid t) (h : DOk t st) : firstS (dSys t st) = [(0 : Int)] := by
 refine (firstS_is (dSys_valid hv h)).unique ⟨fun x => ?_, by simp⟩
 unfold firstP
 rw [dd_clos hv h, List.mem_singleton]
 exact Iff.rfl
theorem dd_none {t : Lts} {st : DNet} (hv : Valid t) (h : DOk t st) {i : Nat} {cur : List Int} (hc : st.rows[i]? = some cur) {k : Nat} (hn : nextS t cur ((k : Int) + 1) = []) : nextS (dSys t st) [(i : Int)] ((k : Int) + 1) = [] := by
 refine List.eq_nil_iff_forall_not_mem.2 fun x hx => ?_
 have h1 := ((nextS_is (dSys_valid hv h) _ _).mem x).1 hx
 unfold nextP at h1
 rw [dd_clos hv h] at h1
 obtain ⟨e, he, hl, hs, -⟩ := h1
 rw [List.mem_singleton] at hs
 obtain ⟨c, h1, h2, -⟩ := dok_eok h e he
 rw [hs, Int.toNat_natCast, hc] at h1
 cases h1
 rw [hl] at h2
 exact h2 hn
theorem dd_some {t : Lts} {st : DNet} (hv : Valid t) (h : DOk t st) {i k j : Nat} (hj : (⟨(i : Int), (k : Int) + 1, (j : Int)⟩ : Edge) ∈ st.edges) : nextS (dSys t st) [(i : Int)] ((k : Int) + 1) = [(j : Int)] := by
 refine (nextS_is (dSys_valid hv h) _ _).unique ⟨fun x => ?_, by simp⟩
 unfold nextP
 rw [dd_clos hv h, List.mem_singleton]
 constructor
 ·rintro rfl
  exact ⟨_, hj, rfl, by simp, rfl⟩
 ·rintro ⟨e, he, hl, hs, rfl⟩
  rw [List.mem_singleton] at hs
  obtain ⟨c, h1, -, h3⟩ := dok_eok h e he
  obtain ⟨c', k1, -, k3⟩ := dok_eok h _ hj
  have hG := dok_good hv h
  have h0 := (hG.edges e he).2.2.1
  simp only [Int.toNat_natCast] at k1 k3
  rw [hs, Int.toNat_natCast, k1] at h1
  cases h1
  rw [hl] at h3
  obtain ⟨a1, a2⟩ := List.getElem?_eq_some_iff.1 h3
  obtain ⟨b1, b2⟩ := List.getElem?_eq_some_iff.1 k3
  have := (List.getElem_inj hG.nodup).1 (a2.trans b2.symm)
  omega
theorem dd_mid {t : Lts} {st : DNet} (hv : Valid t) (h : DOk t st) {i : Nat} {cur : List Int} (hi : i < st.rows.length) (hc : (dAt t i).rows[i]? = some cur) : ∀ j, j ≤ t.labels.length - 1 →
  dmid (dSys t st) i [(i : Int)] ⟨ones (dAt t i).rows.length, (dAt t i).edges⟩ j = ⟨ones (dmid t i cur (dAt t i) j).rows.length, (dmid t i cur (dAt t i) j).edges⟩
 | 0, _ => rfl
 | j + 1, hj => by
  obtain ⟨c, h1, h2, h3, h4⟩ := h.row hi
  rw [hc] at h1
  cases h1
  rw [dmid_succ, dd_mid hv h hi hc j (by omega), dmid_succ]
  by_cases hn : nextS t cur ((j : Int) + 1) = []
  ·unfold dstep
   rw [if_pos hn, if_pos (dd_none hv h h2 hn)]
  ·obtain ⟨r, hr⟩ := (h3 (j + 1) hj).edges
   have hmem : (⟨(i : Int), (j : Int) + 1, (dplace (dmid t i cur (dAt t i) j).rows (nextS t cur (j + 1)) : Int)⟩ : Edge) ∈ st.edges := by
    rw [hr, dmid_succ]
    unfold dstep
    rw [if_neg hn]
    simp
   have hnx := dd_some hv h hmem
   obtain ⟨M, hM⟩ : ∃ M, M = dmid t i cur (dAt t i) j := ⟨_, rfl⟩
   rw [← hM] at hnx ⊢
   unfold dstep
   rw [if_neg hn, hnx, if_neg (by simp)]
   obtain ⟨p, hp⟩ : ∃ p, p = dplace M.rows (nextS t cur ((j : Int) + 1)) := ⟨_, rfl⟩
   have hle := dplace_le M.rows (nextS t cur ((j : Int) + 1))
   unfold dadd
   rw [← hp] at hle ⊢
   simp only [ones_len]
   by_cases hlt : p < M.rows.length
   ·rw [ones_place hlt, if_pos hlt, if_pos hlt]
   ·have he : p = M.rows.length := by omega
    rw [he, ones_new, if_neg (by omega), if_neg (by omega), List.length_append, List.length_singleton, ones_succ]
theorem dd_at {t : Lts} {st : DNet} (hv : Valid t) (h : DOk t st) : ∀ n, n ≤ st.rows.length → dAt (dSys t st) n = ⟨ones (dAt t n).rows.length, (dAt t n).edges⟩
 | 0, _ => by
  show (⟨[firstS (dSys t st)], []⟩ : DNet) = _
  rw [dd_first hv h]
  rfl
 | n + 1, hn => by
  obtain ⟨cur, h1, -, -, -⟩ := h.row (i := n) (by omega)
  have ih := dd_at hv h n (by omega)
  have hl := (List.getElem?_eq_some_iff.1 h1).1
  have hcur : (dAt (dSys t st) n).rows[n]? = some [(n : Int)] := by rw [ih]; exact ones_get hl
  rw [dAt_succ hcur, ih, dAt_succ h1]
  exact dd_mid hv h (by omega) h1 _ (Nat.le_refl _)
/-- The same net, of sets of one state each. -/
def ddNet (st : DNet) : DNet := ⟨ones st.rows.length, st.edges⟩
theorem dd_ok {t : Lts} {st : DNet} (hv : Valid t) (h : DOk t st) : DOk (dSys t st) (ddNet st) := by
 have hs := h.2
 obtain ⟨m, hm, em, lm⟩ := h.1
 refine ⟨⟨m, fun k hk => ?_, ?_, ?_⟩, ?_, ?_⟩
 ·rw [dd_at hv h k (by omega)]
  show k < (ones (dAt t k).rows.length).length
  rw [ones_len]
  exact hm k hk
 ·rw [dd_at hv h m (by omega), em]
  rfl
 ·show (ones st.rows.length).length = m
  rw [ones_len]
  exact lm
 ·show (ones st.rows.length).length ≤ 40
  rw [ones_len]
  exact hs.1
 ·exact hs.2
theorem dd_sys (t : Lts) (st : DNet) : dSys (dSys t st) (ddNet st) = dSys t st := by
 unfold dSys ddNet
 simp only [ones_len]
theorem dd_set {st : DNet} {q : Int} (h0 : 0 ≤ q) (h1 : q < st.rows.length) : setOf (ddNet st) q = [q] := by
 have e0 : q = ((q.toNat : Nat) : Int) := by omega
 rw [e0]
 exact setOf_at (ones_get (by omega))

end Go.Proofs.YthofaoabgbgbdaaGreatDoor

namespace Go.Proofs.YthofaoabgbgbdaaGreatDoor
open Go Go.RowKit

/-- A set that internal edges never have to leave. -/
def Endless (t : Lts) (S : Int → Prop) : Prop := ∀ y, S y → ∃ e ∈ t.edges, e.src = y ∧ e.lab = 0 ∧ S e.dst
def Diverges (t : Lts) (x : Int) : Prop := ∃ S, Endless t S ∧ S x
/-- An internal edge from k to a place that is marked. -/
def goesD (t : Lts) (c : List Bool) (k : Int) (j : Nat) : Bool := (t.edges.take j).any fun e => (e.src == k) && (e.lab == 0) && c.getD e.dst.toNat false
/-- What is left holds all endless sets. -/
structure DivOk (t : Lts) (c : List Bool) : Prop where
 len : (c.length : Int) = t.states
 all : ∀ S, Endless t S → ∀ x, S x → 0 ≤ x → x < t.states → c.getD x.toNat false = true
theorem DivOk.start (t : Lts) (h : 1 ≤ t.states) : DivOk t (List.replicate t.states.toNat true) :=
 ⟨by rw [List.length_replicate]; omega, fun S _ x _ h0 h1 => by rw [List.getD_eq_getElem?_getD, List.getElem?_replicate, if_pos (by omega)]; rfl⟩
theorem edge_in {t : Lts} (hv : Valid t) {e : Edge} (he : e ∈ t.edges) : EdgeOk t e := by
 obtain ⟨i, hi, rfl⟩ := List.mem_iff_getElem.1 he
 exact hv.edge i hi
theorem DivOk.set {t : Lts} (hv : Valid t) {c : List Bool} (h : DivOk t c) {k : Nat} (hg : goesD t c k t.edges.length = false) : DivOk t (c.set k false) := by
 refine ⟨by rw [List.length_set]; exact h.len, fun S hS x hx h0 h1 => ?_⟩
 by_cases e : x.toNat = k
 ·exfalso
  obtain ⟨f, hf, hs, hl, hd⟩ := hS x hx
  have hok := edge_in hv hf
  have h2 := h.all S hS f.dst hd hok.d0 hok.d1
  unfold goesD at hg
  rw [List.take_length, List.any_eq_false] at hg
  refine hg f hf ?_
  rw [h2, hl, hs, ← e]
  simp
  omega
 ·rw [List.getD_eq_getElem?_getD, List.getElem?_set_ne (fun h => e h.symm), ← List.getD_eq_getElem?_getD]
  exact h.all S hS x hx h0 h1
theorem DivOk.done {t : Lts} (hv : Valid t) {c : List Bool} (h : DivOk t c) (hr : ∀ k : Nat, k < c.length → c.getD k false = true → goesD t c k t.edges.length = true) (x : Int) (h0 : 0 ≤ x) (h1 : x < t.states) : c.getD x.toNat false = true ↔ Diverges t x := by
 constructor
 ·intro hc
  refine ⟨fun y => 0 ≤ y ∧ y < t.states ∧ c.getD y.toNat false = true, fun y hy => ?_, h0, h1, hc⟩
  have h2 := hr y.toNat (by have := h.len; omega) hy.2.2
  unfold goesD at h2
  rw [List.take_length, List.any_eq_true] at h2
  obtain ⟨e, he, h3⟩ := h2
  have hok := edge_in hv he
  simp only [Bool.and_eq_true, beq_iff_eq] at h3
  exact ⟨e, he, by have := h3.1.1; omega, h3.1.2, hok.d0, hok.d1, h3.2⟩
 ·rintro ⟨S, hS, hx⟩
  exact h.all S hS x hx h0 h1
/-- A set with a divergent state. -/
def divIn (t : Lts) (st : DNet) (q : Int) : Prop := ∃ x ∈ setOf st q, Diverges t x
/-- The trace, the code. -/
def DivIs (t : Lts) (xs : List ByteArray) (code : Int) : Prop :=
 (¬ Valid t ∧ xs = [] ∧ code = 1) ∨ (Valid t ∧ DFull t ∧ xs = [] ∧ code = 5)
  ∨ (Valid t ∧ ∃ st, DOk t st ∧ ((NoWord ((0 : Int), (0 : Int)) (goBoth (dSys t st) (dSys t st) t.labels) (t.labels.length - 1) (liveF fun p => divIn t st p.1) ∧ xs = [] ∧ code = 3)
   ∨ ∃ u, Least ((0 : Int), (0 : Int)) (goBoth (dSys t st) (dSys t st) t.labels) (t.labels.length - 1) (liveF fun p => divIn t st p.1) u ∧ xs = txtsOf t.labels u ∧ code = 0))
theorem DivIs.unique {t : Lts} {xs xs' : List ByteArray} {code code' : Int} (h : DivIs t xs code) (k : DivIs t xs' code') : xs = xs' ∧ code = code' := by
 rcases h with ⟨h1, h2, h3⟩ | ⟨h1, h2, h3, h4⟩ | ⟨h1, st, h2, h3⟩ <;> rcases k with ⟨k1, k2, k3⟩ | ⟨k1, k2, k3, k4⟩ | ⟨k1, st', k2, k3⟩ <;>
  first
  | exact absurd k1 h1
  | exact absurd h1 k1
  | exact ⟨h2.trans k2.symm, h3.trans k3.symm⟩
  | exact ⟨h3.trans k3.symm, h4.trans k4.symm⟩
  | exact absurd k2 h2.not_full
  | exact absurd h2 k2.not_full
  | skip
 have e := h2.1.unique k2.1
 subst e
 rcases h3 with ⟨a1, a2, a3⟩ | ⟨u, a1, a2, a3⟩ <;> rcases k3 with ⟨b1, b2, b3⟩ | ⟨u', b1, b2, b3⟩
 ·exact ⟨a2.trans b2.symm, a3.trans b3.symm⟩
 ·exact (b1.some a1).elim
 ·exact (a1.some b1).elim
 ·have := a1.unique b1
  subst this
  exact ⟨a2.trans b2.symm, a3.trans b3.symm⟩

end Go.Proofs.YthofaoabgbgbdaaGreatDoor

namespace Go.Proofs.YthofaoabgbgbdaaGreatDoor
open Go Go.RowKit

theorem dif_same (x : Lts) (L : List ByteArray) : ∀ u, (difS x x L u).1 = (difS x x L u).2
 | [] => rfl
 | k :: u => by
  rw [difS_cons]
  show goTo x _ _ = goTo x _ _
  rw [dif_same x L u]
theorem lab_next {L : List ByteArray} {k : Nat} (h : k + 1 < L.length) : labK L k = L[k + 1] := by
 unfold labK
 rw [List.getD_eq_getElem?_getD, List.getElem?_eq_getElem h]
 rfl
theorem mem_rdy {t : Lts} {k : Int} {l : ByteArray} : l ∈ rdy t k ↔ ∃ e ∈ t.edges, e.src = k ∧ labAt t e = l := by
 unfold rdy outOf
 rw [(labSet_is _).2, List.mem_map]
 constructor
 ·rintro ⟨e, he, h⟩
  obtain ⟨h1, h2⟩ := List.mem_filter.1 he
  exact ⟨e, h1, eq_of_beq h2, h⟩
 ·rintro ⟨e, h1, h2, h⟩
  exact ⟨e, List.mem_filter.2 ⟨h1, by rw [h2]; exact beq_self_eq_true k⟩, h⟩

section
variable {t : Lts} {st : DNet}
theorem word_low (hv : Valid t) (h : DOk t st) (u : List Nat) : (difS (dSys t st) (dSys t st) t.labels u).1 < st.rows.length := (difS_range (dSys_valid hv h) (dSys_valid hv h) t.labels u).1.1
/-- The sets are closed under internal edges. -/
theorem set_closed (hv : Valid t) (h : DOk t st) : ∀ u, WOk (t.labels.length - 1) u → ∀ e ∈ t.edges, e.lab = 0 → e.src ∈ setOf st (difS (dSys t st) (dSys t st) t.labels u).1 → e.dst ∈ setOf st (difS (dSys t st) (dSys t st) t.labels u).1
 | [], _, e, he, hl, hs => by
  have h0 : setOf st (difS (dSys t st) (dSys t st) t.labels []).1 = firstS t := set_first h
  rw [h0] at hs ⊢
  exact ((firstS_is hv).mem _).2 (clos.next (((firstS_is hv).mem _).1 hs) he hl)
 | k :: u, hw, e, he, hl, hs => by
  have hk : k < t.labels.length - 1 := hw k (by simp)
  have h0 : setOf st (difS (dSys t st) (dSys t st) t.labels (k :: u)).1 = nextS t (setOf st (difS (dSys t st) (dSys t st) t.labels u).1) ((k : Int) + 1) := by
   rw [difS_cons]
   exact set_go hv h (word_low hv h u) (by omega)
  rw [h0] at hs ⊢
  exact ((nextS_is hv _ _).mem _).2 (clos.next (((nextS_is hv _ _).mem _).1 hs) he hl)
theorem some_stable {S : List Int} (hne : S ≠ []) (hcl : ∀ e ∈ t.edges, e.lab = 0 → e.src ∈ S → e.dst ∈ S) (hd : ∀ x ∈ S, ¬ Diverges t x) : ∃ x, x ∈ stabs t S := by
 refine Classical.byContradiction fun hn => ?_
 have hE : Endless t (· ∈ S) := fun y hy => by
  by_cases hst : stableB t y = true
  ·exact absurd ⟨y, List.mem_filter.2 ⟨hy, hst⟩⟩ hn
  ·rw [stable_out] at hst
   refine Classical.byContradiction fun hno => hst fun e he hl => hno ?_
   obtain ⟨h1, h2⟩ := List.mem_filter.1 he
   have h3 : e.src = y := eq_of_beq h2
   exact ⟨e, h1, h3, hl, hcl e h1 hl (by rw [h3]; exact hy)⟩
 obtain ⟨x, hx⟩ := List.exists_mem_of_ne_nil S hne
 exact hd x hx ⟨_, hE, hx⟩
/-- A state of the deterministic system offers what leads on from its set. -/
theorem offer_iff (hv : Valid t) (h : DOk t st) {q : Nat} {cur : List Int} (hc : st.rows[q]? = some cur) {l : ByteArray} : l ∈ rdy (dSys t st) q ↔ ∃ k, ∃ hk : k + 1 < t.labels.length, nextS t cur ((k : Int) + 1) ≠ [] ∧ l = t.labels[k + 1] := by
 have hG := dok_good hv h
 rw [mem_rdy]
 constructor
 ·rintro ⟨e, he, hs, hl⟩
  obtain ⟨h1, h2, h3⟩ := lab_get hG he
  have h4 := (hG.edges e he).2.1
  obtain ⟨c, k1, k2, -⟩ := dok_eok h e he
  rw [hs, Int.toNat_natCast, hc] at k1
  cases k1
  refine ⟨e.lab.toNat - 1, by omega, ?_, ?_⟩
  ·rw [show (((e.lab.toNat - 1 : Nat) : Int) + 1) = e.lab from by omega]
   exact k2
  ·rw [← hl]
   refine Eq.trans (show labAt (dSys t st) e = labAt t e from rfl) (h2.trans ?_)
   congr 1
   omega
 ·rintro ⟨k, hk, hne, rfl⟩
  have hex : ∃ e ∈ st.edges, e.src = (q : Int) ∧ e.lab = (k : Int) + 1 := by
   refine Classical.byContradiction fun hno => ?_
   have h1 := go_none hv h (q := q) hk fun e he hs hl => hno ⟨e, he, hs, hl⟩
   rcases go_row hv h hc hk with ⟨h2, -⟩ | ⟨-, j, h3, -⟩
   ·exact hne h2
   ·omega
  obtain ⟨e, he, hs, hl⟩ := hex
  obtain ⟨h1, h2, h3⟩ := lab_get hG he
  refine ⟨e, he, hs, ?_⟩
  refine Eq.trans (show labAt (dSys t st) e = labAt t e from rfl) (h2.trans ?_)
  congr 1
  omega
/-- What leads on from a set leads on from one of its states. -/
theorem next_some (hv : Valid t) {S : List Int} {k : Nat} (hk : k < t.labels.length) : nextS t S k ≠ [] ↔ 0 < (followL t S t.labels[k]).length := by
 have h1 := followL_is hv S hk
 have h2 := nextS_is hv S k
 constructor
 ·intro h
  obtain ⟨x, hx⟩ := List.exists_mem_of_ne_nil _ h
  obtain ⟨a, ha, -⟩ := (h2.mem x).1 hx
  exact List.length_pos_of_mem ((h1.mem a).2 ha)
 ·intro h e
  obtain ⟨x, hx⟩ := List.exists_mem_of_length_pos h
  have := (h2.mem x).2 (clos.base ((h1.mem x).1 hx))
  rw [e] at this
  cases this
theorem det_none1 (hv : Valid t) (h : DOk t st) {u : List Nat} (hw : WOk (t.labels.length - 1) u) (hd : ¬ divIn t st (difS (dSys t st) (dSys t st) t.labels u).1) : ¬ badP t (dSys t st) st (ddNet st) (difS (dSys t st) (dSys t st) t.labels u) := by
 rintro ⟨h0, h1⟩
 have hq := word_low hv h u
 have hcl := set_closed hv h u hw
 rw [← dif_same] at h0 h1
 obtain ⟨q, hqq⟩ : ∃ q, q = (difS (dSys t st) (dSys t st) t.labels u).1 := ⟨_, rfl⟩
 rw [← hqq] at h0 h1 hq hd hcl
 rcases h1 with h1 | h1
 ·omega
 ·rw [dd_set h0 hq, excL_iff (fun x hx => by rw [List.mem_singleton] at hx; rw [hx]; exact h0)] at h1
  obtain ⟨x, hx, hex⟩ := h1
  have hx1 := (List.mem_filter.1 hx).1
  rw [List.mem_singleton] at hx1
  subst hx1
  obtain ⟨q', rfl⟩ : ∃ q' : Nat, x = (q' : Int) := ⟨x.toNat, by omega⟩
  have hc : st.rows[q']? = some st.rows[q'] := List.getElem?_eq_getElem (by omega)
  have hS : setOf st (q' : Int) = st.rows[q'] := setOf_at hc
  obtain ⟨j, hj⟩ := some_stable (set_some hv h h0 hq) hcl (fun x hx hdv => hd ⟨x, hx, hdv⟩)
  obtain ⟨hj1, hj2⟩ := List.mem_filter.1 hj
  unfold excB at hex
  rw [Bool.not_eq_true', List.any_eq_false] at hex
  refine hex j hj ?_
  unfold withinL
  rw [List.all_eq_true]
  intro l hl
  rw [inT_mem, offer_iff hv h hc]
  obtain ⟨e, he, hs, hle⟩ := mem_rdy.1 hl
  have hl0 : e.lab ≠ 0 := fun e0 => stable_out.1 hj2 e (List.mem_filter.2 ⟨he, by rw [hs]; exact beq_self_eq_true j⟩) e0
  have hok := edge_in hv he
  obtain ⟨hlt, hla⟩ := labAt_idx hok
  have hl1 := hok.l0
  refine ⟨e.lab.toNat - 1, by omega, fun e1 => ?_, ?_⟩
  ·have h5 := ((nextS_is hv st.rows[q'] (((e.lab.toNat - 1 : Nat) : Int) + 1)).mem e.dst).2 (clos.base ⟨e, he, by omega, by rw [hs, ← hS]; exact hj1, rfl⟩)
   rw [e1] at h5
   cases h5
  ·rw [← hle, hla]
   congr 1
   omega
theorem det_none2 (hv : Valid t) (h : DOk t st) {u : List Nat} (hu : ¬ undetL t (setOf st (difS (dSys t st) (dSys t st) t.labels u).1) ≠ ByteArray.empty) : ¬ badP (dSys t st) t (ddNet st) st (difS (dSys t st) (dSys t st) t.labels u) := by
 rintro ⟨h0, h1⟩
 have hq := word_low hv h u
 rw [← dif_same] at h0 h1
 obtain ⟨q, hqq⟩ : ∃ q, q = (difS (dSys t st) (dSys t st) t.labels u).1 := ⟨_, rfl⟩
 rw [← hqq] at h0 h1 hq hu
 rcases h1 with h1 | h1
 ·omega
 ·have hG := dok_good hv h
  obtain ⟨q', rfl⟩ : ∃ q' : Nat, q = (q' : Int) := ⟨q.toNat, by omega⟩
  have hc : st.rows[q']? = some st.rows[q'] := List.getElem?_eq_getElem (by omega)
  have hS : setOf st (q' : Int) = st.rows[q'] := setOf_at hc
  rw [dd_set h0 hq, hS, excL_iff (fun x hx => ((hG.rows _ (List.getElem_mem (by omega))).1 x hx).1)] at h1
  obtain ⟨x, hx, hex⟩ := h1
  unfold excB at hex
  rw [Bool.not_eq_true', List.any_eq_false] at hex
  have hqs : (q' : Int) ∈ stabs (dSys t st) [(q' : Int)] := List.mem_filter.2 ⟨by simp, stable_out.2 fun e he hl => by
   have := (hG.edges e (List.mem_filter.1 he).1).2.1.1
   omega⟩
  refine hex _ hqs ?_
  unfold withinL
  rw [List.all_eq_true]
  intro l hl
  obtain ⟨k, hk, hne, rfl⟩ := (offer_iff hv h hc).1 hl
  refine Classical.byContradiction fun hin => hu ?_
  rw [undet_iff hv]
  refine ⟨k, hk, ?_⟩
  rw [lab_next hk, hS]
  unfold sometimes refuseB
  rw [Bool.and_eq_true]
  refine ⟨decide_eq_true ((next_some hv hk).1 hne), ?_⟩
  rw [List.any_eq_true]
  exact ⟨x, hx, by rw [Bool.eq_false_iff.2 hin]; rfl⟩
theorem both_labels (hv : Valid t) : labSet (tauT :: (t.labels ++ t.labels)) = t.labels := by
 refine labSet_eq (labels_pair hv.labels) fun x => ?_
 obtain ⟨h0, ht⟩ := tau_first hv
 have hm : tauT ∈ t.labels := ht ▸ List.getElem_mem h0
 rw [List.mem_cons, List.mem_append]
 constructor
 ·rintro (rfl | h | h)
  ·exact hm
  ·exact h
  ·exact h
 ·exact fun h => .inr (.inl h)
/-- The failures are the same. -/
theorem eqf_determinate (hv : Valid t) (h : DOk t st) (hdet : NoWord ((0 : Int), (0 : Int)) (goBoth (dSys t st) (dSys t st) t.labels) (t.labels.length - 1) (liveF fun p => undetL t (setOf st p.1) ≠ ByteArray.empty))
  (hdiv : NoWord ((0 : Int), (0 : Int)) (goBoth (dSys t st) (dSys t st) t.labels) (t.labels.length - 1) (liveF fun p => divIn t st p.1)) {r : Bool} {code : Int} (he : EqfIs t (dSys t st) r code) : r = true ∧ code = 0 := by
 have hvd := dSys_valid hv h
 have hdd := dd_ok hv h
 have hL := both_labels hv
 have hL1 : bothL t (dSys t st) = t.labels := hL
 have hL2 : bothL (dSys t st) t = t.labels := hL
 obtain ⟨r1, xs1, ys1, r2, xs2, ys2, h1, h2, rfl⟩ := he
 have live : ∀ (F : Int × Int → Prop) u, 0 ≤ (difS (dSys t st) (dSys t st) t.labels u).1 → F (difS (dSys t st) (dSys t st) t.labels u) → liveF F (difS (dSys t st) (dSys t st) t.labels u) := fun F u h0 hF => ⟨fun hd => by have := hd.1; omega, hF⟩
 have g1 : r1 = true ∧ code = 0 := by
  rcases h1 with ⟨a1, -⟩ | ⟨-, a1 | a1, -⟩ | ⟨-, sa, sb, hsa, hsb, hc, ⟨-, hr, -⟩ | ⟨u, hl, -⟩⟩
  ·exact absurd ⟨hv, hvd⟩ a1
  ·exact absurd a1 h.not_full
  ·exact absurd a1 hdd.not_full
  ·exact ⟨hr, hc⟩
  ·exfalso
   have e1 := hsa.1.unique h.1
   have e2 := hsb.1.unique hdd.1
   subst e1 e2
   rw [dd_sys, hL1] at hl
   obtain ⟨hw, hb, -⟩ := hl
   have h0 : 0 ≤ (difS (dSys t sa) (dSys t sa) t.labels u).1 := by rw [dif_same]; exact hb.1
   exact det_none1 hv h hw (fun hd => hdiv u hw (live _ u h0 hd)) hb
 have g2 : r2 = true := by
  rcases h2 with ⟨a1, -⟩ | ⟨-, a1 | a1, -⟩ | ⟨-, sa, sb, hsa, hsb, hc, ⟨-, hr, -⟩ | ⟨u, hl, -⟩⟩
  ·exact absurd ⟨hvd, hv⟩ a1
  ·exact absurd a1 hdd.not_full
  ·exact absurd a1 h.not_full
  ·exact hr
  ·exfalso
   have e1 := hsb.1.unique h.1
   have e2 := hsa.1.unique hdd.1
   subst e1 e2
   rw [dd_sys, hL2] at hl
   obtain ⟨hw, hb, -⟩ := hl
   have h0 : 0 ≤ (difS (dSys t sb) (dSys t sb) t.labels u).1 := by rw [dif_same]; exact hb.1
   exact det_none2 hv h (fun hd => hdet u hw (live _ u h0 hd)) hb
 exact ⟨by rw [g1.1, g2]; rfl, g1.2⟩
end

end Go.Proofs.YthofaoabgbgbdaaGreatDoor

namespace Go.Proofs.YthofaoabgbgbdaaGreatDoor
open Go Go.RowKit


theorem undet_get {t : Lts} {S : List Int} (h : undetL t S ≠ ByteArray.empty) : undetL t S ∈ t.labels.drop 1 ∧ sometimes t S (undetL t S) = true := by
 unfold undetL at h ⊢
 cases hf : (t.labels.drop 1).find? (sometimes t S) with
 | none => rw [hf] at h; exact absurd rfl h
 | some s => exact ⟨List.mem_of_find?_eq_some hf, List.find?_some hf⟩
theorem drop_vis {t : Lts} (hv : Valid t) {l : ByteArray} (h : l ∈ t.labels.drop 1) : visOne l = true := by
 obtain ⟨j, hj, rfl⟩ := List.mem_iff_getElem.1 h
 rw [List.length_drop] at hj
 have h1 := hv.labels.label (1 + j) (by omega) (by omega)
 have h2 := hv.labels.other (1 + j) (by omega) (by omega)
 rw [List.getElem_drop]
 unfold visOne
 rw [Bool.and_eq_true, Bool.not_eq_true', beq_eq_false_iff_ne]
 exact ⟨h1, by rw [tauV_list]; exact h2⟩
theorem labK_drop {L : List ByteArray} {k : Nat} (h : k + 1 < L.length) : labK L k ∈ L.drop 1 := by
 rw [lab_next h]
 refine List.mem_iff_getElem.2 ⟨k, by rw [List.length_drop]; omega, ?_⟩
 rw [List.getElem_drop]
 congr 1
 omega
theorem txts_drop {L : List ByteArray} {u : List Nat} (hw : WOk (L.length - 1) u) : ∀ l ∈ txtsOf L u, l ∈ L.drop 1 := by
 intro l hl
 unfold txtsOf at hl
 obtain ⟨k, hk, rfl⟩ := List.mem_map.1 hl
 have := hw k (List.mem_reverse.1 hk)
 exact labK_drop (by omega)
theorem in_ord {t : Lts} (hv : Valid t) : InOrd t.labels := by
 obtain ⟨h0, ht⟩ := tau_first hv
 exact ⟨by rw [List.getElem?_eq_getElem h0, ht], labels_pair hv.labels⟩

/-- What holds of the trace and the label. -/
structure Undet (t : Lts) (xs : List ByteArray) (s : ByteArray) : Prop where
 tr : visB xs = true
 one : visB [s] = true
 longer : visB (xs ++ [s]) = true
 some : aftL t xs ≠ []
 more : aftL t (xs ++ [s]) ≠ []
 ref : (stabs t (aftL t xs)).any (fun k => !inT (rdy t k) s) = true
 mem : ∀ l ∈ xs ++ [s], l ∈ t.labels
theorem undet_is {t : Lts} {st : DNet} (hv : Valid t) (h : DOk t st) {u : List Nat} (hl : Least ((0 : Int), (0 : Int)) (goBoth (dSys t st) (dSys t st) t.labels) (t.labels.length - 1) (liveF fun p => undetL t (setOf st p.1) ≠ ByteArray.empty) u) :
  Undet t (txtsOf t.labels u) (undetL t (setOf st (difS (dSys t st) (dSys t st) t.labels u).1)) := by
 obtain ⟨hw, ⟨hlive, hu⟩, -⟩ := hl
 have hq := word_low hv h u
 have h0 : 0 ≤ (difS (dSys t st) (dSys t st) t.labels u).1 := by
  rcases Int.lt_or_le (difS (dSys t st) (dSys t st) t.labels u).1 0 with hn | hn
  ·exact absurd ⟨hn, by have := dif_same (dSys t st) t.labels u; show (difS (dSys t st) (dSys t st) t.labels u).2 < 0; omega⟩ hlive
  ·exact hn
 have hu2 : undetL t (setOf st (difS (dSys t st) (dSys t st) t.labels u).1) ≠ ByteArray.empty := hu
 have haft := (aft_word hv hv h h (in_ord hv) u hw).1
 have hne := set_some hv h h0 hq
 rw [← haft] at hne hu2 ⊢
 obtain ⟨S, hS⟩ : ∃ S, S = aftL t (txtsOf t.labels u) := ⟨_, rfl⟩
 obtain ⟨s, hs⟩ : ∃ s, s = undetL t S := ⟨_, rfl⟩
 rw [← hS] at hne hu2 ⊢
 obtain ⟨h1, h2⟩ := undet_get hu2
 rw [← hs] at h1 h2 ⊢
 unfold sometimes at h2
 rw [Bool.and_eq_true] at h2
 have hsm : s ∈ t.labels := List.mem_of_mem_drop h1
 have hx := txts_drop hw
 have hvx : visB (txtsOf t.labels u) = true := List.all_eq_true.2 fun l hl => drop_vis hv (hx l hl)
 have hvs : visOne s = true := drop_vis hv h1
 refine ⟨hvx, ?_, ?_, ?_, ?_, ?_, ?_⟩
 ·unfold visB; rw [List.all_cons, hvs]; rfl
 ·unfold visB at hvx ⊢; rw [List.all_append, hvx, List.all_cons, hvs]; rfl
 ·rw [← hS]; exact hne
 ·rw [aftL_snoc, ← hS]
  unfold nxtL
  rw [if_pos (inT_mem.2 hsm)]
  obtain ⟨hk, he, -⟩ := idxL_get hsm
  rw [next_some hv hk, he]
  exact of_decide_eq_true h2.1
 ·rw [← hS]; exact h2.2
 ·intro l hl
  rcases List.mem_append.1 hl with hl | hl
  ·exact List.mem_of_mem_drop (hx l hl)
  ·rw [List.mem_singleton] at hl; rw [hl]; exact hsm

end Go.Proofs.YthofaoabgbgbdaaGreatDoor

namespace Go.Proofs.YthofaoabgbgbdaaGreatDoor
open Go Go.RowKit

theorem slice_from (T e : TypeId) (s : Nat) (hT : Tryz.prog.underlying T = some (.slice e)) (hs : ∀ w, (sizeOf e).run Tryz.prog w = .ok s w) (a : Addr) (n c : Nat) (hn : 1 ≤ n) (w : World) :
  (Instr.slice T (.slice (some a) n c) (some (.int .i64 1)) none none).run Tryz.prog w = .ok (.slice (some (if c = 1 then a else a.add s)) (n - 1) (c - 1)) w := by
 have hel : Tryz.prog.elem T = e := by simp [Program.elem, hT]
 rw [run_slice_l w T (some a) n c (by rw [hel]; exact hT) .i64 1 (by decide) (by omega), hel, hs]
 simp only [Result.andThen, sliced, Nat.one_mul, Int.toNat_one]
 by_cases h : c = 1
 ·simp [h]
 ·simp [h]
end Go.Proofs.YthofaoabgbgbdaaGreatDoor
