/-
  The implementation's isStable, stable, lacking, refuse.
  What both texts of IsDeterminate return.
  The implementation's visible at any label, after, undetermined.
  The implementation's IsDeterminate.
-/
import Derived.Test.YtpoleaekcjjedaaGreatDoorD28
import Derived.Test.YtpoleaekcjjedaaGreatDoorD7
import Derived.Deep.RegionHeld3
import Derived.Test.YtpoleaekcjjedaaGreatDoorD27
import Derived.Test.YtpoleaekcjjedaaGreatDoorD8
import Derived.Test.YtpoleaekcjjedaaGreatDoorD15
import Derived.Test.YtpoleaekcjjedaaGreatDoorD14
namespace Go.Proofs.YtpoleaekcjjedaaGreatDoor
open Go Go.RowKit

set_option maxRecDepth 100000 in
theorem isStable_any (lo : Nat) (t : Lts) (lv ev : Value) (s : Int) (w : World) (hv : Valid t) (hl : SliceK 1 encS lo w lv t.labels) (he : SliceK 3 encE lo w ev t.edges) :
    Calls Tryz.prog 232 #[.agg #[.int .i64 t.states, .int .i64 t.initial, lv, ev], .int .i64 s] w fun e w' => e = .returned (.bool (stableB t s)) ∧ Below w.heap.size w w' := by
  obtain ⟨wA, hwA⟩ : ∃ wA, wA = w.alloc (.cells #[.int .i64 t.states, .int .i64 t.initial, lv, ev] 31) := ⟨_, rfl⟩
  have hbA : Below w.heap.size w wA := by rw [hwA]; exact (Below.refl _ _).alloc (Nat.le_refl _) _
  have HR := Lib.hid (readyLabels_any lo t lv ev s wA hv (hl.below hbA) (he.below hbA))
  have HT := Lib.hid (tau_rdy hv s)
  have HBA := Lib.hid hbA
  have HWA := Lib.hid hwA
  clear hv hl he hbA hwA
  go_enter Tryz.func232, Tryz.ntmps232
  go_wp2_with fail
  rw [← HWA.out]
  refine Calls.mono HR.out ?_
  rintro e w1 ⟨v1, rfl, hb1, ho1⟩
  have HC := Lib.hid (Contains_strs wA.heap.size v1 tauT (rdy t s) w1 ho1.at)
  have hc : ((rdy t s).any fun y => y.toList == tauT.toList) = !stableB t s := HT.out
  rw [hc] at HC
  have HB1 := Lib.hid (HBA.out.trans (hb1.mono HBA.out.size))
  clear hb1 ho1 hc HR
  go_wp2_with fail
  refine Calls.mono HC.out ?_
  rintro e w2 ⟨rfl, rfl⟩
  go_wp2
  go_ret
  exact ⟨ret_bool (by simp), HB1.out⟩

set_option maxRecDepth 100000 in
theorem stable1_any (lo tb : Nat) (t : Lts) (lv ev : Value) (s : Int) (w : World) (hv : Valid t) (hl : SliceK 1 encS lo w lv t.labels) (he : SliceK 3 encE lo w ev t.edges) (ht : Blk w tb [.int .i64 t.states, .int .i64 t.initial, lv, ev] 31) :
    Calls Tryz.prog 231 #[.int .i64 s, .pointer (some ⟨tb, 0, none⟩)] w fun e w' => e = .returned (.bool (!stableB t s)) ∧ Below w.heap.size w w' := by
  have HS := Lib.hid (isStable_any lo t lv ev s w hv hl he)
  have x0 := ht.cell 0 rfl
  have x1 := ht.cell 1 rfl
  have x2 := ht.cell 2 rfl
  have x3 := ht.cell 3 rfl
  clear hv hl he ht
  go_enter Tryz.func231, Tryz.ntmps231
  go_wp2_with fail
  refine Calls.mono HS.out ?_
  rintro e w1 ⟨rfl, hb1⟩
  have HB1 := Lib.hid hb1
  clear hb1 HS
  go_wp2
  go_ret
  exact ⟨rfl, HB1.out⟩

set_option maxRecDepth 100000 in
theorem stable_any (lo lo2 : Nat) (t : Lts) (lv ev sv : Value) (S : List Int) (w : World) (hv : Valid t) (hl : SliceK 1 encS lo w lv t.labels) (he : SliceK 3 encE lo w ev t.edges) (hs : SliceK 1 encI lo2 w sv S) (hz : S.length ≤ 1048576) :
    Calls Tryz.prog 156 #[.agg #[.int .i64 t.states, .int .i64 t.initial, lv, ev], sv] w (MadeNums (stabs t S) w) := by
  obtain ⟨tb, htb⟩ : ∃ tb, tb = w.heap.size := ⟨_, rfl⟩
  obtain ⟨wA, hwA⟩ : ∃ wA, wA = w.alloc (.cells #[.int .i64 t.states, .int .i64 t.initial, lv, ev] 31) := ⟨_, rfl⟩
  have hbA : Below w.heap.size w wA := by rw [hwA]; exact (Below.refl _ _).alloc (Nat.le_refl _) _
  have hT : Blk wA tb [.int .i64 t.states, .int .i64 t.initial, lv, ev] 31 := by rw [hwA, htb]; exact Blk.new w _ _
  have HCL := Lib.hid (Clone_own lo2 sv S wA (hs.below hbA) hz)
  have HV := Lib.hid hv
  have HL := Lib.hid (hl.below hbA)
  have HE := Lib.hid (he.below hbA)
  have HT := Lib.hid hT
  have HBA := Lib.hid hbA
  have HWA := Lib.hid hwA
  have HTB := Lib.hid htb
  clear hv hl he hs hbA hT hwA htb
  go_enter Tryz.func156, Tryz.ntmps156
  go_wp2_with fail
  rw [← HWA.out]
  try rw [← HTB.out]
  refine Calls.mono HCL.out ?_
  rintro e w1 ⟨v1, rfl, ho1, hb1⟩
  have HDF := Lib.hid (DeleteFuncI wA.heap.size v1 S 231 #[.pointer (some ⟨tb, 0, none⟩)] (fun x => !stableB t x) wA w1 ho1 hb1 hb1.size (fun args w => by kernel_rfl) fun w' hb x _ => stable1_any lo tb t lv ev x w' HV.out (HL.out.below hb) (HE.out.below hb) (HT.out.below hb))
  have hf : (S.filter fun x => !(!stableB t x)) = stabs t S := by unfold stabs; congr 1; funext x; exact Bool.not_not _
  rw [hf] at HDF
  clear ho1 hb1 hf HCL
  go_wp2_with fail
  refine Calls.mono HDF.out ?_
  rintro e w2 ⟨v2, rfl, hb2, ho2⟩
  have HB2 := Lib.hid (HBA.out.trans (hb2.mono HBA.out.size))
  have HO2 := Lib.hid (own_lower ho2 HBA.out.size)
  clear hb2 ho2 HDF
  go_wp2
  go_ret
  exact ⟨_, rfl, HB2.out, HO2.out⟩

set_option maxRecDepth 100000 in
theorem lacking1_any (lo ob : Nat) (ov : Value) (other : List ByteArray) (s : ByteArray) (w : World) (ho : SliceK 1 encS lo w ov other) (hb : Blk w ob [ov] 22) :
    Calls Tryz.prog 216 #[.string s, .pointer (some ⟨ob, 0, none⟩)] w fun e w' => e = .returned (.bool (inT other s)) ∧ Below w.heap.size w w' := by
  have HC := Lib.hid (Contains_strs lo ov s other w ho)
  have x0 := hb.cell 0 rfl
  clear ho hb
  go_enter Tryz.func216, Tryz.ntmps216
  go_wp2_with fail
  refine Calls.mono HC.out ?_
  rintro e w1 ⟨rfl, rfl⟩
  go_wp2
  go_ret
  exact ⟨rfl, Below.refl _ _⟩
set_option maxRecDepth 100000 in
theorem lacking_any (lo lo2 : Nat) (sv ov : Value) (set other : List ByteArray) (w : World) (hs : SliceK 1 encS lo w sv set) (ho : SliceK 1 encS lo2 w ov other) (hz : set.length ≤ 1048576) :
    Calls Tryz.prog 144 #[sv, ov] w (MadeTxI (lackL set other) w) := by
  obtain ⟨ob, hob⟩ : ∃ ob, ob = w.heap.size := ⟨_, rfl⟩
  obtain ⟨wA, hwA⟩ : ∃ wA, wA = w.alloc (.cells #[ov] 22) := ⟨_, rfl⟩
  have hbA : Below w.heap.size w wA := by rw [hwA]; exact (Below.refl _ _).alloc (Nat.le_refl _) _
  have hX : Blk wA ob [ov] 22 := by rw [hwA, hob]; exact Blk.new w _ _
  have HCL := Lib.hid (CloneS_own lo sv set wA (hs.below hbA) hz)
  have HOV := Lib.hid (ho.below hbA)
  have HX := Lib.hid hX
  have HBA := Lib.hid hbA
  have HWA := Lib.hid hwA
  have HOB := Lib.hid hob
  obtain ⟨oa, oc, rfl, -, -, -⟩ := ho
  clear hs hbA hX hwA hob
  go_enter Tryz.func144, Tryz.ntmps144
  go_wp2_with fail
  rw [← HWA.out]
  try rw [← HOB.out]
  refine Calls.mono HCL.out ?_
  rintro e w1 ⟨v1, rfl, ho1, hb1⟩
  have HDF := Lib.hid (DeleteFuncS wA.heap.size v1 set 216 #[.pointer (some ⟨ob, 0, none⟩)] (inT other) wA w1 ho1 hb1 hb1.size (fun args w => by kernel_rfl) fun w' hb x _ => lacking1_any lo2 ob _ other x w' (HOV.out.below hb) (HX.out.below hb))
  clear ho1 hb1 HCL
  go_wp2_with fail
  refine Calls.mono HDF.out ?_
  rintro e w2 ⟨v2, rfl, hb2, ho2⟩
  have HB2 := Lib.hid (HBA.out.trans (hb2.mono HBA.out.size))
  have HO2 := Lib.hid (own_lower ho2 HBA.out.size)
  clear hb2 ho2 HDF
  go_wp2
  go_ret
  exact ⟨_, rfl, HB2.out, HO2.out⟩

/-- A state refuses a set: no label of it is ready. -/
def refusesAll (t : Lts) (set : List ByteArray) (k : Int) : Bool := decide ((lackL set (rdy t k)).length = set.length)
theorem refusesAll_one (t : Lts) (l : ByteArray) (k : Int) : refusesAll t [l] k = !inT (rdy t k) l := by
  unfold refusesAll lackL
  rw [List.filter_cons, List.filter_nil]
  cases inT (rdy t k) l <;> simp

set_option maxRecDepth 100000 in
set_option maxHeartbeats 1000000 in
theorem refuse1_any (lo lo2 tb sb : Nat) (t : Lts) (lv ev sv : Value) (set : List ByteArray) (k : Int) (w : World) (hv : Valid t) (hl : SliceK 1 encS lo w lv t.labels) (he : SliceK 3 encE lo w ev t.edges) (hs : SliceK 1 encS lo2 w sv set) (hz : set.length ≤ 1000)
    (ht : Blk w tb [.int .i64 t.states, .int .i64 t.initial, lv, ev] 31) (hsb : Blk w sb [sv] 22) :
    Calls Tryz.prog 205 #[.int .i64 k, .pointer (some ⟨sb, 0, none⟩), .pointer (some ⟨tb, 0, none⟩)] w fun e w' => e = .returned (.bool (refusesAll t set k)) ∧ Below w.heap.size w w' := by
  obtain ⟨sa, sc, rfl, -, -, -⟩ := id hs
  have HL := Lib.hid hl
  have HE := Lib.hid he
  have HV := Lib.hid hv
  have HSV := Lib.hid hs
  obtain ⟨SN, hSN⟩ : ∃ SN, SN = set.length := ⟨_, rfl⟩
  have HSN := Lib.hid hSN
  rw [← hSN] at hsb hz HSV
  have HSB := Lib.hid hsb
  have HTB := Lib.hid ht
  have hD : Below w.heap.size w w.drew := (Below.refl _ _).drew
  have HSW : Hid (∀ w', Below w.heap.size w w' → w'.cell? ⟨sb, 0, none⟩ = some (.slice sa SN sc) ∧ w'.cell? ⟨tb, 0, none⟩ = some (.int .i64 t.states) ∧ w'.cell? ⟨tb, 1, none⟩ = some (.int .i64 t.initial) ∧ w'.cell? ⟨tb, 2, none⟩ = some lv ∧ w'.cell? ⟨tb, 3, none⟩ = some ev) := fun w' hb =>
    ⟨(HSB.out.below hb).cell 0 rfl, (HTB.out.below hb).cell 0 rfl, (HTB.out.below hb).cell 1 rfl, (HTB.out.below hb).cell 2 rfl, (HTB.out.below hb).cell 3 rfl⟩
  have HD := Lib.hid hD
  have HRL := Lib.hid (readyLabels_any lo t lv ev k w.drew hv (hl.below hD) (he.below hD))
  have HLK : Hid (∀ w' v, Below w.heap.size w w' → SliceK 1 encS w.drew.heap.size w' v (rdy t k) → Calls Tryz.prog 144 #[.slice sa SN sc, v] w' (MadeTxI (lackL set (rdy t k)) w')) := fun w' v hb h => lacking_any lo2 _ _ v set (rdy t k) w' (HSV.out.below hb) h (by rw [← HSN.out]; omega)
  have hle : (lackL set (rdy t k)).length ≤ SN := by rw [hSN]; exact List.length_filter_le _ _
  have HRF : Hid (refusesAll t set k = (((lackL set (rdy t k)).length : Int) == (SN : Int))) := by
    unfold Hid refusesAll
    rw [← HSN.out, Bool.eq_iff_iff, decide_eq_true_eq, beq_iff_eq]
    omega
  obtain ⟨KN, hKN⟩ : ∃ KN, KN = (lackL set (rdy t k)).length := ⟨_, rfl⟩
  rw [← hKN] at HRF hle
  have HKN := Lib.hid hKN
  clear hv hl he hs ht hsb hD hSN hKN
  go_enter Tryz.func205, Tryz.ntmps205
  go_wp2
  go_region_held3 (fun w' => w'.cell? ⟨sb, 0, none⟩ = some (.slice sa SN sc) ∧ w'.cell? ⟨tb, 0, none⟩ = some (.int .i64 t.states) ∧ w'.cell? ⟨tb, 1, none⟩ = some (.int .i64 t.initial) ∧ w'.cell? ⟨tb, 2, none⟩ = some lv ∧ w'.cell? ⟨tb, 3, none⟩ = some ev)
    (first
      | exact HSW.out _ HD.out
      | exact HSW.out _ hq1
      | exact HSW.out _ hq2
      | go_keep)
    (first
      | (go_at_call 145; refine Calls.mono HRL.out ?_; rintro e w1 ⟨v1, rfl, hb1, ho1⟩; have hq1 : Below w.heap.size w w1 := HD.out.trans (hb1.mono (by simp)))
      | (go_at_call 144; refine Calls.mono (HLK.out _ _ hq1 ho1.at) ?_; rintro e w2 ⟨v2, rfl, hb2, ho2⟩; obtain ⟨a2, c2, rfl, -, -⟩ := owns_slice ho2; rw [← HKN.out]; have hq2 : Below w.heap.size w w2 := hq1.trans (hb2.mono hq1.size))
      | fail)
  all_goals (
    have HQ := Lib.hid hq2
    clear hb1 ho1 hq1 hb2 ho2 hq2
    go_wp2
    go_ret
    exact ⟨ret_bool HRF.out.symm, HQ.out⟩)

set_option maxRecDepth 100000 in
set_option maxHeartbeats 1000000 in
theorem refuse_any (lo lo2 lo3 : Nat) (t : Lts) (lv ev sv tv : Value) (S : List Int) (set : List ByteArray) (w : World) (hv : Valid t) (hl : SliceK 1 encS lo w lv t.labels) (he : SliceK 3 encE lo w ev t.edges) (hs : SliceK 1 encI lo2 w sv S) (ht : SliceK 1 encS lo3 w tv set) (hz : S.length ≤ 1048576) (hz2 : set.length ≤ 1000) :
    Calls Tryz.prog 135 #[.agg #[.int .i64 t.states, .int .i64 t.initial, lv, ev], sv, tv] w fun e w' => e = .returned (.bool ((stabs t S).any (refusesAll t set))) ∧ Below w.heap.size w w' := by
  obtain ⟨tb, htb⟩ : ∃ tb, tb = w.heap.size := ⟨_, rfl⟩
  obtain ⟨wA, hwA⟩ : ∃ wA, wA = (w.alloc (.cells #[.int .i64 t.states, .int .i64 t.initial, lv, ev] 31)).alloc (.cells #[tv] 22) := ⟨_, rfl⟩
  have hbA : Below w.heap.size w wA := by rw [hwA]; exact ((Below.refl _ _).alloc (Nat.le_refl _) _).alloc (by simp) _
  have hT : Blk wA tb [.int .i64 t.states, .int .i64 t.initial, lv, ev] 31 := by rw [hwA, htb]; exact (Blk.new w _ _).alloc _
  have hX : Blk wA (tb + 1) [tv] 22 := by
    have h := Blk.new (w.alloc (.cells #[.int .i64 t.states, .int .i64 t.initial, lv, ev] 31)) [tv] 22
    rw [World.size_alloc, ← htb] at h
    rw [hwA]
    exact h
  have HST := Lib.hid (stable_any lo lo2 t lv ev sv S wA hv (hl.below hbA) (he.below hbA) (hs.below hbA) hz)
  have HV := Lib.hid hv
  have HL := Lib.hid (hl.below hbA)
  have HE := Lib.hid (he.below hbA)
  have HTV := Lib.hid (ht.below hbA)
  have HT := Lib.hid hT
  have HX := Lib.hid hX
  have HBA := Lib.hid hbA
  have HWA := Lib.hid hwA
  have HTB := Lib.hid htb
  obtain ⟨xa, xc, rfl, -, -, -⟩ := ht
  clear hv hl he hs hbA hT hX hwA htb
  go_enter Tryz.func135, Tryz.ntmps135
  go_wp2_with fail
  rw [← HWA.out]
  try rw [← HTB.out]
  refine Calls.mono HST.out ?_
  rintro e w1 ⟨v1, rfl, hb1, ho1⟩
  have hs1 : SliceK 1 encI wA.heap.size w1 v1 (stabs t S) := SliceK.of_owns (e := 2) encI_len rfl (by rw [flat_encI]; exact ho1)
  have HCF := Lib.hid (ContainsFuncI wA.heap.size v1 (stabs t S) 205 #[.pointer (some ⟨tb + 1, 0, none⟩), .pointer (some ⟨tb, 0, none⟩)] (refusesAll t set) w1 hs1 (fun args w => by kernel_rfl)
    fun w' hb x _ => refuse1_any lo lo3 tb (tb + 1) t lv ev _ set x w' HV.out (HL.out.below (hb1.trans (hb.mono hb1.size))) (HE.out.below (hb1.trans (hb.mono hb1.size))) (HTV.out.below (hb1.trans (hb.mono hb1.size))) hz2 (HT.out.below (hb1.trans (hb.mono hb1.size))) (HX.out.below (hb1.trans (hb.mono hb1.size))))
  have HB1 := Lib.hid (HBA.out.trans (hb1.mono HBA.out.size))
  clear hb1 ho1 hs1 HST
  go_wp2_with fail
  refine Calls.mono HCF.out ?_
  rintro e w2 ⟨rfl, hb2⟩
  have HB2 := Lib.hid (HB1.out.trans (hb2.mono HB1.out.size))
  clear hb2 HCF
  go_wp2
  go_ret
  exact ⟨rfl, HB2.out⟩

end Go.Proofs.YtpoleaekcjjedaaGreatDoor

namespace Go.Proofs.YtpoleaekcjjedaaGreatDoor
open Go Go.RowKit

theorem results_tmp4 {fn : Func} {t u v z : Tmp} (h : fn.results = #[.tmp t, .tmp u, .tmp v, .tmp z]) (tmps : Array Value) (P : Program) (w : World) :
    (results fn tmps).run P w = .ok (.tuple #[tmps.getD t undef, tmps.getD u undef, tmps.getD v undef, tmps.getD z undef]) w := by
  simp [results, h]

def DetmAns (t : Lts) (r : Bool) (xs : List ByteArray) (s : ByteArray) (code : Int) : Prop := DetmIs t r xs s code ∧ xs.length ≤ 2000
theorem DetmAns.unique {t : Lts} {r r' : Bool} {xs xs' : List ByteArray} {s s' : ByteArray} {code code' : Int} (h : DetmAns t r xs s code) (k : DetmAns t r' xs' s' code') : r = r' ∧ xs = xs' ∧ s = s' ∧ code = code' := h.1.unique k.1
theorem DetmAns.few {t : Lts} {r : Bool} {xs : List ByteArray} {s : ByteArray} {code : Int} (h : DetmAns t r xs s code) : xs.length ≤ 2000 := h.2
def RetDt (t : Lts) (w : World) (e : Ending) (w' : World) : Prop :=
  Below w.heap.size w w' ∧ ∃ (r : Bool) (xs : List ByteArray) (s : ByteArray) (code : Int) (v : Value), e = .returned (.tuple #[.bool r, v, .string s, .int .i64 code]) ∧ DetmAns t r xs s code ∧ OwnStrs w.heap.size w' v xs
theorem dt_none {t : Lts} {r : Bool} {code : Int} {w w' : World} (hb : Below w.heap.size w w') (h : DetmIs t r [] ByteArray.empty code) : RetDt t w (.returned (.tuple #[.bool r, .slice none 0 0, .string ⟨#[]⟩, .int .i64 code])) w' :=
  ⟨hb, r, [], ByteArray.empty, code, _, rfl, ⟨h, Nat.zero_le _⟩, ⟨rfl, .inl ⟨rfl, rfl⟩⟩⟩

theorem labK_get {L : List ByteArray} {k : Nat} (h : k + 1 < L.length) : labK L k = L[k + 1] := by
  unfold labK
  rw [List.getD_eq_getElem?_getD, List.getElem?_eq_getElem h]
  rfl
/-- A label leads on from a row just if it leads somewhere in the deterministic system. -/
theorem sometimes_go {t : Lts} {st : DNet} (hv : Valid t) (h : DOk t st) {i : Nat} {cur : List Int} (hc : st.rows[i]? = some cur) {k : Nat} (hk : k + 1 < t.labels.length) :
    sometimes t cur (labK t.labels k) = (decide (0 ≤ goTo (dSys t st) (i : Int) (labK t.labels k)) && refuseB t cur (labK t.labels k)) := by
  unfold sometimes
  congr 1
  have hkl := labK_get hk
  have hne : 0 < (followL t cur (labK t.labels k)).length ↔ nextS t cur ((k : Int) + 1) ≠ [] := by
    have h1 := nextS_eq hv cur hk
    rw [← hkl] at h1
    have h2 : ((k + 1 : Nat) : Int) = (k : Int) + 1 := by omega
    rw [h2] at h1
    have hs := nextS_is hv cur ((k : Int) + 1)
    have hf := followL_is hv cur hk
    rw [← hkl] at hf
    rw [h2] at hf
    constructor
    · intro hp he
      obtain ⟨x, hx⟩ := List.exists_mem_of_length_pos hp
      have := (hs.mem x).2 (clos.base ((hf.mem x).1 hx))
      rw [he] at this
      cases this
    · intro hp
      refine Nat.pos_of_ne_zero fun e => hp ?_
      have e2 := List.length_eq_zero_iff.1 e
      refine List.eq_nil_iff_forall_not_mem.2 fun x hx => ?_
      obtain ⟨a, ha, -⟩ := (hs.mem x).1 hx
      have := (hf.mem a).2 ha
      rw [e2] at this
      cases this
  rcases go_row hv h hc hk with ⟨h1, h2⟩ | ⟨h1, j, h2, h3⟩
  · rw [h2, decide_eq_false (show ¬ 0 < _ from fun hp => hne.1 hp h1)]
    rfl
  · rw [h2, decide_eq_true (hne.2 h1), decide_eq_true (by omega)]
theorem undet_first {t : Lts} {S : List Int} {k : Nat} (hk : k + 1 < t.labels.length) (hs : sometimes t S (labK t.labels k) = true) (hno : ∀ j, j < k → sometimes t S (labK t.labels j) = false) : undetL t S = labK t.labels k := by
  unfold undetL
  have h9 : ∀ j (h : j < (t.labels.drop 1).length), (t.labels.drop 1)[j] = labK t.labels j := fun j h => by
    rw [List.length_drop] at h
    rw [labK_get (by omega), List.getElem_drop]
    congr 1
    omega
  have hkl : k < (t.labels.drop 1).length := by rw [List.length_drop]; omega
  rw [find_at hkl (fun j hj hjk => by rw [h9 j hj]; exact hno j hjk) (by rw [h9 k hkl]; exact hs), h9 k hkl]
  rfl
theorem undet_none {t : Lts} (hv : Valid t) {S : List Int} (hno : ∀ j, j + 1 < t.labels.length → sometimes t S (labK t.labels j) = false) : ¬ undetL t S ≠ ByteArray.empty := by
  rw [undet_iff hv]
  rintro ⟨k, hk, hs⟩
  rw [hno k hk] at hs
  cases hs

end Go.Proofs.YtpoleaekcjjedaaGreatDoor

namespace Go.Proofs.YtpoleaekcjjedaaGreatDoor
open Go Go.RowKit

theorem setL_none {t : Lts} (hv : Valid t) : setL t.states (clos t fun y => y ∈ ([] : List Int)) = [] := by
  have hs := setL_is (n := t.states) (P := clos t fun y => y ∈ ([] : List Int)) (clos.inside hv fun x hx => by cases hx)
  refine List.eq_nil_iff_forall_not_mem.2 fun x hx => ?_
  obtain ⟨a, ha, -⟩ := (hs.mem x).1 hx
  cases ha
theorem followL_no {t : Lts} (hv : Valid t) (cur : List Int) {l : ByteArray} (h : inT t.labels l = false) : followL t cur l = [] := by
  have h1 : followR t cur l = [] := by
    unfold followR
    rw [List.map_eq_nil_iff, List.filter_eq_nil_iff]
    intro e he hh
    unfold hitS at hh
    rw [Bool.and_eq_true] at hh
    obtain ⟨i, hi, rfl⟩ := List.mem_iff_getElem.1 he
    obtain ⟨hk, hl⟩ := labAt_idx (hv.edge i hi)
    have h2 : inT t.labels l = true := inT_mem.2 (by rw [← toList_inj (eq_of_beq hh.2), hl]; exact List.getElem_mem _)
    rw [h] at h2
    cases h2
  unfold followL
  rw [h1]
  refine List.eq_nil_of_length_eq_zero (Nat.le_zero.1 ?_)
  refine Nat.le_trans (Lib.compact_length_le _) ?_
  simp

set_option maxRecDepth 100000 in
set_option maxHeartbeats 2000000 in
theorem visNo_any (lo lo2 : Nat) (t : Lts) (lv ev sv : Value) (cur : List Int) (l : ByteArray) (w : World) (hv : Valid t) (hl : SliceK 1 encS lo w lv t.labels) (he : SliceK 3 encE lo w ev t.edges) (hs : SliceK 1 encI lo2 w sv cur) (hno : inT t.labels l = false) :
    Calls Tryz.prog 137 #[.agg #[.int .i64 t.states, .int .i64 t.initial, lv, ev], sv, .string l] w (MadeNums [] w) := by
  have HV := Lib.hid hv
  have HL := Lib.hid hl
  have HE := Lib.hid he
  obtain ⟨wB, hwB⟩ : ∃ wB, wB = w.alloc (.cells #[.int .i64 t.states, .int .i64 t.initial, lv, ev] 31) := ⟨_, rfl⟩
  have hb0 : Below w.heap.size w wB := by rw [hwB]; exact (Below.refl _ _).alloc (Nat.le_refl _) _
  have hx0 : Blk wB w.heap.size [.int .i64 t.states, .int .i64 t.initial, lv, ev] 31 := by rw [hwB]; exact Blk.new w _ _
  have HB0 := Lib.hid hb0
  have HWB := Lib.hid hwB
  obtain ⟨bx, hbx⟩ : ∃ bx, bx = w.heap.size := ⟨_, rfl⟩
  rw [← hbx] at hx0
  have HBX := Lib.hid hbx
  have hD : Below wB.heap.size wB wB.drew := (Below.refl _ _).drew
  have HD := Lib.hid hD
  have HX := Lib.hid hx0
  have HSW : Hid (∀ w', Below wB.heap.size wB w' → w'.cell? ⟨bx, 0, none⟩ = some (.int .i64 t.states) ∧ w'.cell? ⟨bx, 1, none⟩ = some (.int .i64 t.initial) ∧ w'.cell? ⟨bx, 2, none⟩ = some lv ∧ w'.cell? ⟨bx, 3, none⟩ = some ev) := fun w' hb =>
    ⟨(HX.out.below hb).cell 0 rfl, (HX.out.below hb).cell 1 rfl, (HX.out.below hb).cell 2 rfl, (HX.out.below hb).cell 3 rfl⟩
  have hb1 : Below w.heap.size w wB.drew := hb0.trans (hD.mono hb0.size)
  have hfo := follow_any lo lo2 t lv ev sv cur l wB.drew hv (hl.below hb1) (he.below hb1) (hs.below hb1)
  rw [followL_no hv cur hno] at hfo
  have HF := Lib.hid hfo
  have HIN : Hid (∀ w' v, Below wB.heap.size wB w' → SliceK 1 encI wB.drew.heap.size w' v ([] : List Int) → Calls Tryz.prog 136 #[.agg #[.int .i64 t.states, .int .i64 t.initial, lv, ev], v] w' (MadeNums [] w')) := fun w' v hb hs' => by
    have h := internal_any lo _ t lv ev v [] w' HV.out (HL.out.below (HB0.out.trans (hb.mono HB0.out.size))) (HE.out.below (HB0.out.trans (hb.mono HB0.out.size))) hs' (fun x hx => by cases hx) (by simp)
    rw [setL_none HV.out] at h
    exact h
  clear hv hl he hs hno hb0 hx0 hwB hbx hD hb1 hfo
  go_enter Tryz.func137, Tryz.ntmps137
  go_wp2
  rw [← HWB.out, ← HBX.out]
  go_region_held3 (fun w' => w'.cell? ⟨bx, 0, none⟩ = some (.int .i64 t.states) ∧ w'.cell? ⟨bx, 1, none⟩ = some (.int .i64 t.initial) ∧ w'.cell? ⟨bx, 2, none⟩ = some lv ∧ w'.cell? ⟨bx, 3, none⟩ = some ev)
    (first
      | exact HSW.out _ (Below.refl _ _)
      | exact HSW.out _ HD.out
      | exact HSW.out _ hq1
      | exact HSW.out _ hq2
      | go_keep)
    (first
      | (go_at_call 134; refine Calls.mono HF.out ?_; rintro e w1 ⟨v1, rfl, hb1, ho1⟩; have hq1 : Below wB.heap.size wB w1 := HD.out.trans (hb1.mono (by simp)))
      | (go_at_call 136; refine Calls.mono (HIN.out _ _ hq1 (SliceK.of_owns (enc := encI) encI_len rfl (by rw [flat_encI]; exact ho1))) ?_; rintro e w2 ⟨v2, rfl, hb2, ho2⟩; have hq2 : Below wB.heap.size wB w2 := hq1.trans (hb2.mono hq1.size))
      | fail)
  all_goals (
    have hq1s := hq1.size
    have HBF := Lib.hid (HB0.out.trans (hq2.mono HB0.out.size))
    have HOF := Lib.hid (own_lower ho2 (Nat.le_trans HB0.out.size hq1s))
    clear hb1 ho1 hq1 hb2 ho2 hq2 hq1s
    go_wp2
    go_ret
    exact ⟨_, rfl, HBF.out, HOF.out⟩)
theorem visL_any (lo lo2 : Nat) (t : Lts) (lv ev sv : Value) (cur : List Int) (l : ByteArray) (w : World) (hv : Valid t) (hl : SliceK 1 encS lo w lv t.labels) (he : SliceK 3 encE lo w ev t.edges) (hs : SliceK 1 encI lo2 w sv cur) :
    Calls Tryz.prog 137 #[.agg #[.int .i64 t.states, .int .i64 t.initial, lv, ev], sv, .string l] w (MadeNums (nxtL t cur l) w) := by
  unfold nxtL
  cases h : inT t.labels l
  · rw [if_neg (by simp)]
    exact visNo_any lo lo2 t lv ev sv cur l w hv hl he hs h
  · rw [if_pos rfl]
    obtain ⟨hk, hg, -⟩ := idxL_get (inT_mem.1 h)
    exact visible_any lo lo2 t lv ev sv cur l w hv hl he hs hk hg

theorem aftL_take (t : Lts) (tr : List ByteArray) {k : Nat} (h : k < tr.length) : aftL t (tr.take (k + 1)) = nxtL t (aftL t (tr.take k)) tr[k] := by rw [List.take_succ_eq_append_getElem h, aftL_snoc]

set_option maxRecDepth 100000 in
set_option maxHeartbeats 4000000 in
theorem after_any (lo lo2 : Nat) (t : Lts) (lv ev tv : Value) (tr : List ByteArray) (w : World) (hv : Valid t) (hl : SliceK 1 encS lo w lv t.labels) (he : SliceK 3 encE lo w ev t.edges) (ht : SliceK 1 encS lo2 w tv tr) (hz : tr.length ≤ 100000) :
    Calls Tryz.prog 76 #[.agg #[.int .i64 t.states, .int .i64 t.initial, lv, ev], tv] w (MadeNums (aftL t tr) w) := by
  obtain ⟨tb, htb⟩ : ∃ tb, tb = w.heap.size := ⟨_, rfl⟩
  obtain ⟨wA, hwA⟩ : ∃ wA, wA = w.alloc (.cells #[.int .i64 t.states, .int .i64 t.initial, lv, ev] 31) := ⟨_, rfl⟩
  have hbA : Below w.heap.size w wA := by rw [hwA]; exact (Below.refl _ _).alloc (Nat.le_refl _) _
  have hT : Blk wA tb [.int .i64 t.states, .int .i64 t.initial, lv, ev] 31 := by rw [hwA, htb]; exact Blk.new w _ _
  have hsA : wA.heap.size = tb + 1 := by rw [hwA, htb]; simp
  obtain ⟨w1, hw1⟩ : ∃ w1, w1 = wA.alloc (.cells #[.int .i64 t.initial] 2) := ⟨_, rfl⟩
  have hb1 : Below wA.heap.size wA w1 := by rw [hw1]; exact (Below.refl _ _).alloc (Nat.le_refl _) _
  have hS : SliceK 1 encI 0 w1 (.slice (some ⟨tb + 1, 0, none⟩) 1 1) [t.initial] := by
    have := World.ownsRow_lit (base := 0) (e := 2) (size := 1) wA #[.int .i64 t.initial] 1 (Nat.zero_le _) (by decide) (by simp)
    rw [hsA] at this
    rw [hw1]
    exact SliceK.of_owns (e := 2) encI_len rfl (by rw [flat_encI]; simpa using this)
  have hIN := internal_any lo 0 t lv ev _ [t.initial] w1 hv ((hl.below hbA).below hb1) ((he.below hbA).below hb1) hS (fun x hx => by rw [List.mem_singleton] at hx; subst hx; exact ⟨hv.in0, hv.in1⟩) (by simp)
  rw [firstS_eq] at hIN
  have HIN := Lib.hid hIN
  have HV := Lib.hid hv
  have HL := Lib.hid (hl.below hbA)
  have HE := Lib.hid (he.below hbA)
  have HTV := Lib.hid (ht.below hbA)
  have HT := Lib.hid hT
  have HBA := Lib.hid hbA
  have HB1 := Lib.hid hb1
  have HWA := Lib.hid hwA
  have HW1 := Lib.hid hw1
  have HTB := Lib.hid htb
  obtain ⟨ta, tc, rfl, -, -, -⟩ := ht
  obtain ⟨N, hN⟩ : ∃ N, N = tr.length := ⟨_, rfl⟩
  rw [← hN] at hz HTV ⊢
  have HN := Lib.hid hN
  clear hv hl he hwA hbA hT hw1 hb1 hS hIN htb hsA hN
  go_enter Tryz.func76, Tryz.ntmps76
  go_wp2_with fail
  rw [← HWA.out, ← HW1.out, ← HTB.out]
  refine Calls.mono HIN.out ?_
  rintro e w2 ⟨v2, rfl, hb2, ho2⟩
  have HB2 := Lib.hid (HB1.out.trans (hb2.mono HB1.out.size))
  have HO2 := Lib.hid (own_lower ho2 HB1.out.size)
  clear hb2 ho2 HIN
  go_wp2
  go_loopw [5, 15] (fun v5 v15 wr => ∃ k : Nat, k ≤ N ∧ v15 = .int .i64 k ∧ Below wA.heap.size wA wr ∧ wr.ownsRow wA.heap.size 2 1 v5 (aftL t (tr.take k)).length ((aftL t (tr.take k)).map (Value.int .i64))) (fun _ v15 _ => N - (intOf v15).toNat)
  case atStart => exact ⟨0, Nat.zero_le _, rfl, HB2.out, HO2.out⟩
  case round =>
    clear HO2
    obtain ⟨k, hk, rfl, hbl, ho⟩ := hrel
    have HBL := Lib.hid hbl
    have HO := Lib.hid ho
    have hsz := hbl.size
    obtain ⟨va, vc, hv5, -, -⟩ := owns_slice ho
    subst hv5
    by_cases hlt : k < N
    · have hlt2 : k < tr.length := by rw [← HN.out]; exact hlt
      obtain ⟨a9, c9, h9, -, -, hr9⟩ := HTV.out.below hbl
      simp only [Value.slice.injEq] at h9
      obtain ⟨rfl, -, rfl⟩ := h9
      obtain ⟨b, o, rfl, -, hb, cx⟩ := hr9.one hlt2
      simp only [encS, List.getElem?_cons_zero] at cx
      have HNX := Lib.hid (aftL_take t tr hlt2)
      obtain ⟨l, hl⟩ : ∃ l, l = tr[k] := ⟨_, rfl⟩
      rw [← hl] at cx HNX
      have x0 := (HT.out.below hbl).cell 0 rfl
      have x1 := (HT.out.below hbl).cell 1 rfl
      have x2 := (HT.out.below hbl).cell 2 rfl
      have x3 := (HT.out.below hbl).cell 3 rfl
      obtain ⟨cur, hcur⟩ : ∃ cur, cur = aftL t (tr.take k) := ⟨_, rfl⟩
      rw [← hcur] at ho HO HNX ⊢
      have HVS := Lib.hid (visL_any lo wA.heap.size t lv ev (.slice va cur.length vc) cur l wr HV.out (HL.out.below hbl) (HE.out.below hbl) (SliceK.of_owns (e := 2) encI_len rfl (by rw [flat_encI]; exact ho)))
      obtain ⟨CN, hCN⟩ : ∃ CN, CN = cur.length := ⟨_, rfl⟩
      rw [← hCN] at HVS ⊢
      clear hbl ho hr9 hl hcur hCN
      go_wp2_with fail
      refine Calls.mono HVS.out ?_
      rintro e w3 ⟨v3, rfl, hb3, ho3⟩
      have HB3 := Lib.hid (HBL.out.trans (hb3.mono hsz))
      have HO3 : Hid (w3.ownsRow wA.heap.size 2 1 v3 (aftL t (tr.take (k + 1))).length ((aftL t (tr.take (k + 1))).map (Value.int .i64))) := by
        unfold Hid; rw [HNX.out]; exact own_lower ho3 hsz
      clear hb3 ho3 HVS x0 x1 x2 x3 cx
      go_wp2
      go_roundw
      case rel => exact ⟨k + 1, by omega, by go_num, HB3.out, HO3.out⟩
      case measure => simp [intOf]; omega
    · obtain rfl : k = N := by omega
      have HF : Hid (aftL t (tr.take k) = aftL t tr) := by unfold Hid; rw [List.take_of_length_le (by have := HN.out; omega)]
      clear hbl ho
      go_wp2
      go_ret
      refine ⟨_, rfl, HBA.out.trans (HBL.out.mono HBA.out.size), ?_⟩
      rw [← HF.out]
      exact own_lower HO.out HBA.out.size

set_option maxRecDepth 100000 in
set_option maxHeartbeats 4000000 in
theorem undetermined_any (lo lo2 : Nat) (t : Lts) (lv ev sv : Value) (S : List Int) (w : World) (hv : Valid t) (hl : SliceK 1 encS lo w lv t.labels) (he : SliceK 3 encE lo w ev t.edges) (hs : SliceK 1 encI lo2 w sv S) (hz : S.length ≤ 1000) :
    Calls Tryz.prog 75 #[.agg #[.int .i64 t.states, .int .i64 t.initial, lv, ev], sv] w fun e w' => e = .returned (.string (undetL t S)) ∧ Below w.heap.size w w' := by
  obtain ⟨tb, htb⟩ : ∃ tb, tb = w.heap.size := ⟨_, rfl⟩
  obtain ⟨wA, hwA⟩ : ∃ wA, wA = w.alloc (.cells #[.int .i64 t.states, .int .i64 t.initial, lv, ev] 31) := ⟨_, rfl⟩
  have hbA : Below w.heap.size w wA := by rw [hwA]; exact (Below.refl _ _).alloc (Nat.le_refl _) _
  have hT : Blk wA tb [.int .i64 t.states, .int .i64 t.initial, lv, ev] 31 := by rw [hwA, htb]; exact Blk.new w _ _
  have HV := Lib.hid hv
  have HL := Lib.hid (hl.below hbA)
  have HE := Lib.hid (he.below hbA)
  have HS := Lib.hid (hs.below hbA)
  obtain ⟨al, cl, rfl, hlc, hcc, hlrow⟩ := hl.below hbA
  have hL1 := hv.labels.pos
  have hL12 := hv.labels.most
  obtain ⟨bl, ol, rfl, hblw, hcl⟩ : ∃ bl ol, al = some ⟨bl, ol, none⟩ ∧ bl < wA.heap.size ∧ ∀ i (h : i < t.labels.length), wA.cell? ⟨bl, ol + i, none⟩ = some (.string t.labels[i]) := by
    rcases hlrow with h | ⟨bl, ol, h1, -, h3, h4⟩
    · omega
    · exact ⟨bl, ol, h1, h3, fun i hi => by have := h4 i hi 0 (by omega); simpa [encS] using this⟩
  obtain ⟨LN, hLN⟩ : ∃ LN, LN = t.labels.length := ⟨_, rfl⟩
  rw [← hLN] at hT hwA hlc hL1 hL12 HL ⊢
  have HLN := Lib.hid hLN
  obtain ⟨pk, hpk⟩ : ∃ pk, pk = (if cl = 1 then (⟨bl, ol, none⟩ : Addr) else (⟨bl, ol, none⟩ : Addr).add 1) := ⟨_, rfl⟩
  have HPK := Lib.hid hpk
  have hsl := slice_from 22 9 1 Tryz.underlying22 (fun _ => by kernel_rfl) ⟨bl, ol, none⟩ LN cl hL1
  rw [← hpk] at hsl
  have HCL := Lib.hid hcl
  have HT := Lib.hid hT
  have HBA := Lib.hid hbA
  have HWA := Lib.hid hwA
  have HTB := Lib.hid htb
  have c2 := hT.cell 2 rfl
  have htl := hT.lt
  rw [hwA, htb] at c2
  obtain ⟨sa, sc, rfl, -, -, -⟩ := hs
  obtain ⟨SN, hSN⟩ : ∃ SN, SN = S.length := ⟨_, rfl⟩
  rw [← hSN] at hz HS ⊢
  have HSN := Lib.hid hSN
  clear hv hl he hwA hbA hT htb hLN hcl hlrow hpk hSN
  go_enter Tryz.func75, Tryz.ntmps75
  go_wp2
  rw [← HWA.out]
  try rw [← HTB.out]
  clear hsl
  go_loopw [11] (fun v11 wr => ∃ k : Nat, k ≤ LN - 1 ∧ v11 = .int .i64 k ∧ Below wA.heap.size wA wr ∧ ∀ j, j < k → sometimes t S (labK t.labels j) = false) (fun v11 _ => LN - (intOf v11).toNat)
  case atStart => exact ⟨0, Nat.zero_le _, rfl, Below.refl _ _, fun j h => by omega⟩
  case round =>
    obtain ⟨k, hk, rfl, hbl, hno⟩ := hrel
    have HBL := Lib.hid hbl
    have HNO := Lib.hid hno
    have hsz := hbl.size
    clear hno
    by_cases hlt : k < LN - 1
    · have hk2 : k + 1 < t.labels.length := by have := HLN.out; omega
      have hpk' : pk = ⟨bl, ol + 1, none⟩ := by rw [HPK.out, if_neg (by omega), Addr.add_lit]
      subst hpk'
      have cx := keeps hbl hblw (HCL.out (k + 1) hk2)
      rw [show ol + (k + 1) = ol + 1 + k from by omega] at cx
      have hlk := labK_get hk2
      obtain ⟨l, hl⟩ : ∃ l, l = t.labels[k + 1] := ⟨_, rfl⟩
      rw [← hl] at cx hlk
      have HLK := Lib.hid hlk
      have x0 := (HT.out.below hbl).cell 0 rfl
      have x1 := (HT.out.below hbl).cell 1 rfl
      have x2 := (HT.out.below hbl).cell 2 rfl
      have x3 := (HT.out.below hbl).cell 3 rfl
      have HFO := Lib.hid (follow_any lo lo2 t (.slice (some ⟨bl, ol, none⟩) LN cl) ev (.slice sa SN sc) S l wr HV.out (HL.out.below hbl) (HE.out.below hbl) (HS.out.below hbl))
      have hsm : sometimes t S l = (decide (0 < (followL t S l).length) && refuseB t S l) := rfl
      have hre : ((stabs t S).any (refusesAll t [l])) = refuseB t S l := by
        unfold refuseB
        congr 1
        funext j
        exact refusesAll_one t l j
      have hblr : bl < wr.heap.size := by omega
      have htlr : tb < wr.heap.size := by omega
      obtain ⟨FN, hFN⟩ : ∃ FN, FN = (followL t S l).length := ⟨_, rfl⟩
      rw [← hFN] at hsm
      have HFN := Lib.hid hFN
      have HSM := Lib.hid hsm
      have HRE := Lib.hid hre
      clear hbl hl hlk hsm hre hFN
      go_wp2_with fail
      refine Calls.mono HFO.out ?_
      rintro e w3 ⟨v3, rfl, hb3, ho3⟩
      obtain ⟨a3, c3, rfl, -, -⟩ := owns_slice ho3
      rw [← HFN.out]
      have HB3 := Lib.hid (HBL.out.trans (hb3.mono hsz))
      have hb3A := HBL.out.trans (hb3.mono hsz)
      have y0 := (HT.out.below hb3A).cell 0 rfl
      have y1 := (HT.out.below hb3A).cell 1 rfl
      have y2 := (HT.out.below hb3A).cell 2 rfl
      have y3 := (HT.out.below hb3A).cell 3 rfl
      have hsz3 := hb3A.size
      clear hb3 ho3 HFO x0 x1 x2 x3 cx
      by_cases h0 : FN = 0
      · have hd0 : decide ((0 : Int) < (FN : Int)) = false := decide_eq_false (by omega)
        have hd1 : ¬ (0 : Int) < (FN : Int) := by omega
        have hd2 : decide (0 < FN) = false := decide_eq_false (by omega)
        have HSM2 : Hid (sometimes t S l = false) := by unfold Hid; rw [HSM.out, hd2, Bool.false_and]
        clear hb3A h0
        go_wp2
        go_roundw
        case rel => exact ⟨k + 1, by omega, by go_num, HB3.out, fun j hj => by
          by_cases e : j = k
          · subst e; rw [HLK.out]; exact HSM2.out
          · exact HNO.out j (by omega)⟩
        case measure => simp [intOf]; omega
      · have hd0 : decide ((0 : Int) < (FN : Int)) = true := decide_eq_true (by omega)
        have hd1 : (0 : Int) < (FN : Int) := by omega
        have hd2 : decide (0 < FN) = true := decide_eq_true (by omega)
        obtain ⟨rb, hrb⟩ : ∃ rb, rb = refuseB t S l := ⟨_, rfl⟩
        have HSM2 : Hid (sometimes t S l = rb) := by unfold Hid; rw [HSM.out, hd2, Bool.true_and, hrb]
        have hA : Below w3.heap.size w3 (w3.alloc (.cells #[.string l] 9)) := (Below.refl _ _).alloc (Nat.le_refl _) _
        have hAA := hb3A.trans (hA.mono hsz3)
        have h2 : SliceK 1 encS w3.heap.size (w3.alloc (.cells #[.string l] 9)) (.slice (some ⟨w3.heap.size, 0, none⟩) 1 1) [l] := SliceK.of_owns (e := 9) encS_len rfl (World.ownsRow_lit (base := w3.heap.size) (e := 9) (size := 1) w3 #[.string l] 1 (Nat.le_refl _) (by decide) rfl)
        have hrf := refuse_any lo lo2 w3.heap.size t (.slice (some ⟨bl, ol, none⟩) LN cl) ev (.slice sa SN sc) (.slice (some ⟨w3.heap.size, 0, none⟩) 1 1) S [l] (w3.alloc (.cells #[.string l] 9)) HV.out (HL.out.below hAA) (HE.out.below hAA) (HS.out.below hAA) h2 (by have := HSN.out; omega) (by simp)
        rw [HRE.out, ← hrb] at hrf
        have HRF := Lib.hid hrf
        have HAA := Lib.hid hAA
        clear hb3A h0 hrb hA hAA h2 hrf
        go_wp2_with fail
        refine Calls.mono HRF.out ?_
        rintro e w4 ⟨rfl, hb4⟩
        have HB4 := Lib.hid (HAA.out.trans (hb4.mono HAA.out.size))
        clear hb4 HRF
        cases rb
        · go_wp2
          go_roundw
          case rel => exact ⟨k + 1, by omega, by go_num, HB4.out, fun j hj => by
            by_cases e : j = k
            · subst e; rw [HLK.out]; exact HSM2.out
            · exact HNO.out j (by omega)⟩
          case measure => simp [intOf]; omega
        · have HU : Hid (undetL t S = l) := by unfold Hid; rw [undet_first hk2 (by rw [HLK.out]; exact HSM2.out) HNO.out, HLK.out]
          go_wp2
          go_ret
          exact ⟨by rw [HU.out]; rfl, HBA.out.trans (HB4.out.mono HBA.out.size)⟩
    · have HU : Hid (undetL t S = ByteArray.empty) := by
        have h := undet_none HV.out (S := S) fun j hj => HNO.out j (by have := HLN.out; omega)
        exact Classical.not_not.1 h
      clear hbl
      go_wp2
      go_ret
      exact ⟨by rw [HU.out]; rfl, HBA.out.trans (HBL.out.mono HBA.out.size)⟩

end Go.Proofs.YtpoleaekcjjedaaGreatDoor

namespace Go.Proofs.YtpoleaekcjjedaaGreatDoor
open Go Go.RowKit

set_option maxRecDepth 100000 in
theorem dt1_any (lo lo2 tb : Nat) (t : Lts) (lv ev v : Value) (S : List Int) (w : World) (hv : Valid t) (hl : SliceK 1 encS lo w lv t.labels) (he : SliceK 3 encE lo w ev t.edges) (hs : SliceK 1 encI lo2 w v S) (hz : S.length ≤ 1000) (ht : Blk w tb [.int .i64 t.states, .int .i64 t.initial, lv, ev] 31) :
    Calls Tryz.prog 74 #[v, .pointer (some ⟨tb, 0, none⟩)] w (Decides (undetL t S ≠ ByteArray.empty) w) := by
  have HU := Lib.hid (undetermined_any lo lo2 t lv ev v S w hv hl he hs hz)
  have x0 := ht.cell 0 rfl
  have x1 := ht.cell 1 rfl
  have x2 := ht.cell 2 rfl
  have x3 := ht.cell 3 rfl
  obtain ⟨u, hu⟩ : ∃ u, u = undetL t S := ⟨_, rfl⟩
  rw [← hu] at HU ⊢
  clear hv hl he hs ht hu
  go_enter Tryz.func74, Tryz.ntmps74
  go_wp2_with fail
  refine Calls.mono HU.out ?_
  rintro e w1 ⟨rfl, hb1⟩
  have HB1 := Lib.hid hb1
  clear hb1 HU
  go_wp2
  go_ret
  refine ⟨_, rfl, ?_, HB1.out⟩
  rw [Bool.not_eq_true', Bool.eq_false_iff, ne_eq, List.isEmpty_iff]
  exact not_congr ⟨fun h => toList_inj (by rw [h, Lib.toList_data]; rfl), fun h => by rw [h, Lib.toList_data]; rfl⟩

set_option maxRecDepth 100000 in
set_option maxHeartbeats 4000000 in
theorem implIsDeterminate_any (lo : Nat) (t : Lts) (lv ev : Value) (w : World) (hsh : Short20 t.labels) (hl : SliceK 1 encS lo w lv t.labels) (he : SliceK 3 encE lo w ev t.edges) (g : Glob w) :
    Calls Tryz.prog 26 #[.agg #[.int .i64 t.states, .int .i64 t.initial, lv, ev]] w (RetDt t w) := by
  obtain ⟨p, hp⟩ : ∃ p, p = w.heap.size := ⟨_, rfl⟩
  obtain ⟨W, hW⟩ : ∃ W, W = w.alloc (.cells #[.int .i64 t.states, .int .i64 t.initial, lv, ev] 31) := ⟨_, rfl⟩
  have hB0 : Below w.heap.size w W := by rw [hW]; exact (Below.refl _ _).alloc (Nat.le_refl _) _
  have hX : Blk W p [.int .i64 t.states, .int .i64 t.initial, lv, ev] 31 := by rw [hW, hp]; exact Blk.new w _ _
  have HVA := Lib.hid (ValidLts_any lo t lv ev W hsh (hl.below hB0) (he.below hB0) (g.below hB0))
  have HL := Lib.hid (hl.below hB0)
  have HE := Lib.hid (he.below hB0)
  have HG := Lib.hid (g.below hB0)
  have HSH := Lib.hid hsh
  have HX := Lib.hid hX
  have HB0 := Lib.hid hB0
  have HW := Lib.hid hW
  have HP := Lib.hid hp
  clear hsh hl he g hB0 hX hW hp
  by_cases hv : Valid t
  · have HV := Lib.hid hv
    clear hv
    go_enter Tryz.func26, Tryz.ntmps26
    go_wp2_with fail
    rw [← HW.out]
    refine (Decides.yes HVA.out HV.out).mono ?_
    rintro e w1 ⟨rfl, hb1⟩
    have HB1 := Lib.hid hb1
    have x0 := (HX.out.below hb1).cell 0 rfl
    have x1 := (HX.out.below hb1).cell 1 rfl
    have x2 := (HX.out.below hb1).cell 2 rfl
    have x3 := (HX.out.below hb1).cell 3 rfl
    have HFA := Lib.hid (firstAfter_any lo t lv ev 74 #[.pointer (some ⟨p, 0, none⟩)] (fun S => undetL t S ≠ ByteArray.empty) w1 HV.out HSH.out (HL.out.below hb1) (HE.out.below hb1) (HG.out.below hb1) (fun args w => by kernel_rfl)
      (fun w' hb lo2 v S hs _ hz => dt1_any lo lo2 p t lv ev v S w' HV.out (HL.out.below (hb1.trans (hb.mono hb1.size))) (HE.out.below (hb1.trans (hb.mono hb1.size))) hs (by omega) (HX.out.below (hb1.trans (hb.mono hb1.size)))))
    rw [← HP.out]
    clear hb1 HVA
    go_wp2_with fail
    refine Calls.mono HFA.out ?_
    rintro e w4 ⟨hb4, ⟨hf, rfl⟩ | ⟨st, r, xs, v, hok, rfl, hfi, hown⟩⟩
    · have HFU := Lib.hid hf
      have HB4 := Lib.hid (HB0.out.trans ((HB1.out.trans (hb4.mono HB1.out.size)).mono HB0.out.size))
      clear hf hb4 x0 x1 x2 x3 HFA
      go_wp2
      ((try simp only [Exit.inBlock, Exit.then]); refine bodyPost_ret (results_tmp4 rfl _ _ _) rfl ?_)
      exact dt_none HB4.out (.inr (.inl ⟨HV.out, HFU.out, rfl, rfl, rfl, rfl⟩))
    · have HB14 := Lib.hid (HB1.out.trans (hb4.mono HB1.out.size))
      have HB4 := Lib.hid (HB0.out.trans (HB14.out.mono HB0.out.size))
      have HOK := Lib.hid hok
      have HFI := Lib.hid hfi
      have HOW := Lib.hid (OwnStrs.lower hown (Nat.le_trans HB0.out.size HB1.out.size))
      obtain ⟨va, vc, rfl, -, -⟩ := owns_slice hown
      clear hb4 hok hfi hown x0 x1 x2 x3 HFA
      cases r
      · have HN : Hid (NoWord ((0 : Int), (0 : Int)) (goBoth (dSys t st) (dSys t st) t.labels) (t.labels.length - 1) (liveF fun p => undetL t (setOf st p.1) ≠ ByteArray.empty)) := by
          rcases HFI.out.2 with ⟨h, -, -⟩ | ⟨u, -, h, -⟩
          · exact h
          · cases h
        go_wp2
        ((try simp only [Exit.inBlock, Exit.then]); refine bodyPost_ret (results_tmp4 rfl _ _ _) rfl ?_)
        exact dt_none HB4.out (.inr (.inr ⟨HV.out, st, HOK.out, rfl, .inl ⟨HN.out, rfl, rfl, rfl⟩⟩))
      · obtain ⟨u, hle, hxs⟩ : ∃ u, Least ((0 : Int), (0 : Int)) (goBoth (dSys t st) (dSys t st) t.labels) (t.labels.length - 1) (liveF fun p => undetL t (setOf st p.1) ≠ ByteArray.empty) u ∧ xs = txtsOf t.labels u := by
          rcases HFI.out.2 with ⟨-, h, -⟩ | ⟨u, h1, -, h2⟩
          · cases h
          · exact ⟨u, h1, h2⟩
        have HLE := Lib.hid hle
        have HXS := Lib.hid hxs
        have HFW := Lib.hid HFI.out.1
        have hinord : InOrd t.labels := by rw [← all_used HV.out.labels]; exact InOrd.set _
        have HAF : Hid (aftL t xs = setOf st (difS (dSys t st) (dSys t st) t.labels u).1) := by unfold Hid; rw [hxs]; exact (aft_word HV.out HV.out HOK.out HOK.out hinord u hle.1).1
        have hal : (aftL t xs).length ≤ 40 := by
          rw [HAF.out]
          have hr := difS_range (dSys_valid HV.out HOK.out) (dSys_valid HV.out HOK.out) t.labels u
          by_cases h0 : (difS (dSys t st) (dSys t st) t.labels u).1 < 0
          · rw [setOf_neg h0]; simp
          · have hq : (difS (dSys t st) (dSys t st) t.labels u).1.toNat < st.rows.length := by have h1 : (difS (dSys t st) (dSys t st) t.labels u).1 < (st.rows.length : Int) := hr.1.1; omega
            have e0 : (difS (dSys t st) (dSys t st) t.labels u).1 = (((difS (dSys t st) (dSys t st) t.labels u).1.toNat : Nat) : Int) := by omega
            rw [e0, setOf_at (List.getElem?_eq_getElem hq)]
            exact ((dok_good HV.out HOK.out).rowOk HV.out _ (List.getElem_mem hq)).len
        obtain ⟨XN, hXN⟩ : ∃ XN, XN = xs.length := ⟨_, rfl⟩
        have hHOW : OwnStrs w.heap.size w4 (.slice va XN vc) xs := by rw [hXN]; exact HOW.out
        have HOWX := Lib.hid hHOW
        rw [← hXN]
        have hxn : XN ≤ 2000 := by rw [hXN]; exact HFW.out
        have hD : Below w4.heap.size w4 w4.drew := (Below.refl _ _).drew
        have hbX : ∀ W9, Below w4.heap.size w4 W9 → Below W.heap.size W W9 := fun W9 h => HB14.out.trans (h.mono HB14.out.size)
        have HSW : Hid (∀ w', Below w4.heap.size w4 w' → w'.cell? ⟨p, 0, none⟩ = some (.int .i64 t.states) ∧ w'.cell? ⟨p, 1, none⟩ = some (.int .i64 t.initial) ∧ w'.cell? ⟨p, 2, none⟩ = some lv ∧ w'.cell? ⟨p, 3, none⟩ = some ev) := fun w' hb =>
          ⟨(HX.out.below (hbX w' hb)).cell 0 rfl, (HX.out.below (hbX w' hb)).cell 1 rfl, (HX.out.below (hbX w' hb)).cell 2 rfl, (HX.out.below (hbX w' hb)).cell 3 rfl⟩
        have HD := Lib.hid hD
        have HAFT := Lib.hid (after_any lo w.heap.size t lv ev (.slice va XN vc) xs w4.drew HV.out (HL.out.below (hbX _ hD)) (HE.out.below (hbX _ hD)) ((OwnStrs.below hHOW hD).at) (by have := HFW.out; omega))
        have HUN : Hid (∀ w' v9, Below w4.heap.size w4 w' → SliceK 1 encI w4.drew.heap.size w' v9 (aftL t xs) → Calls Tryz.prog 75 #[.agg #[.int .i64 t.states, .int .i64 t.initial, lv, ev], v9] w' fun e w'' => e = .returned (.string (undetL t (aftL t xs))) ∧ Below w'.heap.size w' w'') := fun w' v9 hb hs =>
          undetermined_any lo _ t lv ev v9 (aftL t xs) w' HV.out (HL.out.below (hbX _ hb)) (HE.out.below (hbX _ hb)) hs (by omega)
        obtain ⟨AN, hAN⟩ : ∃ AN, AN = (aftL t xs).length := ⟨_, rfl⟩
        have HAN := Lib.hid hAN
        clear hle hxs hinord hal hHOW hD hbX hXN hAN
        go_wp2
        go_region_held3 (fun w' => w'.cell? ⟨p, 0, none⟩ = some (.int .i64 t.states) ∧ w'.cell? ⟨p, 1, none⟩ = some (.int .i64 t.initial) ∧ w'.cell? ⟨p, 2, none⟩ = some lv ∧ w'.cell? ⟨p, 3, none⟩ = some ev)
          (first
            | exact HSW.out _ HD.out
            | exact HSW.out _ hq1
            | exact HSW.out _ hq2
            | go_keep)
          (first
            | (go_at_call 76; refine Calls.mono HAFT.out ?_; rintro e w5 ⟨v5, rfl, hb5, ho5⟩; have hq1 : Below w4.heap.size w4 w5 := HD.out.trans (hb5.mono (by simp)))
            | (go_at_call 75; refine Calls.mono (HUN.out _ _ hq1 (SliceK.of_owns (enc := encI) encI_len rfl (by rw [flat_encI]; exact ho5))) ?_; rintro e w6 ⟨rfl, hb6⟩; have hq2 : Below w4.heap.size w4 w6 := hq1.trans (hb6.mono hq1.size))
            | fail)
        all_goals (
          have HQ := Lib.hid hq2
          clear hb5 ho5 hq1 hb6 hq2
          go_wp2
          ((try simp only [Exit.inBlock, Exit.then]); refine bodyPost_ret (results_tmp4 rfl _ _ _) rfl ?_)
          refine ⟨HB4.out.trans (HQ.out.mono HB4.out.size), false, xs, undetL t (aftL t xs), 0, _, rfl, ⟨.inr (.inr ⟨HV.out, st, HOK.out, rfl, .inr ⟨u, HLE.out, rfl, HXS.out, ?_⟩⟩), HFW.out⟩, HOWX.out.below HQ.out⟩
          rw [HAF.out])
  · have HV := Lib.hid hv
    clear hv
    go_enter Tryz.func26, Tryz.ntmps26
    go_wp2_with fail
    rw [← HW.out]
    refine (Decides.no HVA.out HV.out).mono ?_
    rintro e w1 ⟨rfl, hb1⟩
    have HB1 := Lib.hid (HB0.out.trans (hb1.mono HB0.out.size))
    clear hb1 HVA
    go_wp2
    ((try simp only [Exit.inBlock, Exit.then]); refine bodyPost_ret (results_tmp4 rfl _ _ _) rfl ?_)
    exact dt_none HB1.out (.inl ⟨HV.out, rfl, rfl, rfl, rfl⟩)

end Go.Proofs.YtpoleaekcjjedaaGreatDoor
