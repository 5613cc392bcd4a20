/-
  The implementation's visible at any label, after, undetermined.
-/
import Derived.Test.YtpoleaekcjjedaaGreatDoorF15
import Derived.Test.YtpoleaekcjjedaaGreatDoorF8
import Derived.Test.YtpoleaekcjjedaaGreatDoorF18
import Derived.Test.YtpoleaekcjjedaaGreatDoorF16
namespace Go.Proofs.YtpoleaekcjjedaaGreatDoor
open Go Go.RowKit

theorem setL_none {t : Lts} (hv : Valid t) : setL t.states (clos t fun y => y ∈ ([] : List Int)) = [] := by
 have hs := setL_is (n := t.states) (P := clos t fun y => y ∈ ([] : List Int)) (clos.inside hv fun x hx => by cases hx)
 refine List.eq_nil_iff_forall_not_mem.2 fun x hx => ?_
 obtain ⟨a, ha, -⟩ := (hs.mem x).1 hx
 cases ha
theorem followL_no {t : Lts} (hv : Valid t) (cur : List Int) {l : ByteArray} (h : inT t.labels l = false) : followL t cur l = [] := by
 have h1 : followR t cur l = [] := by
  unfold followR
  rw [List.map_eq_nil_iff, List.filter_eq_nil_iff]
  intro e he hh
  unfold hitS at hh
  rw [Bool.and_eq_true] at hh
  obtain ⟨i, hi, rfl⟩ := List.mem_iff_getElem.1 he
  obtain ⟨hk, hl⟩ := labAt_idx (hv.edge i hi)
  have h2 : inT t.labels l = true := inT_mem.2 (by rw [← toList_inj (eq_of_beq hh.2), hl]; exact List.getElem_mem _)
  rw [h] at h2
  cases h2
 unfold followL
 rw [h1]
 refine List.eq_nil_of_length_eq_zero (Nat.le_zero.1 ?_)
 refine Nat.le_trans (Lib.compact_length_le _) ?_
 simp

set_option maxRecDepth 100000 in
set_option maxHeartbeats 2000000 in
theorem visNo_any (lo lo2 : Nat) (t : Lts) (lv ev sv : Value) (cur : List Int) (l : ByteArray) (w : World) (hv : Valid t) (hl : SliceK 1 encS lo w lv t.labels) (he : SliceK 3 encE lo w ev t.edges) (hs : SliceK 1 encI lo2 w sv cur) (hno : inT t.labels l = false) :
  Calls Tryz.prog 137 #[.agg #[.int .i64 t.states, .int .i64 t.initial, lv, ev], sv, .string l] w (MadeNums [] w) := by
 have HV := Lib.hid hv
 have HL := Lib.hid hl
 have HE := Lib.hid he
 obtain ⟨wB, hwB⟩ : ∃ wB, wB = w.alloc (.cells #[.int .i64 t.states, .int .i64 t.initial, lv, ev] 31) := ⟨_, rfl⟩
 have hb0 : Below w.heap.size w wB := by rw [hwB]; exact (Below.refl _ _).alloc (Nat.le_refl _) _
 have hx0 : Blk wB w.heap.size [.int .i64 t.states, .int .i64 t.initial, lv, ev] 31 := by rw [hwB]; exact Blk.new w _ _
 have HB0 := Lib.hid hb0
 have HWB := Lib.hid hwB
 obtain ⟨bx, hbx⟩ : ∃ bx, bx = w.heap.size := ⟨_, rfl⟩
 rw [← hbx] at hx0
 have HBX := Lib.hid hbx
 have hD : Below wB.heap.size wB wB.drew := (Below.refl _ _).drew
 have HD := Lib.hid hD
 have HX := Lib.hid hx0
 have HSW : Hid (∀ w', Below wB.heap.size wB w' → w'.cell? ⟨bx, 0, none⟩ = some (.int .i64 t.states) ∧ w'.cell? ⟨bx, 1, none⟩ = some (.int .i64 t.initial) ∧ w'.cell? ⟨bx, 2, none⟩ = some lv ∧ w'.cell? ⟨bx, 3, none⟩ = some ev) := fun w' hb =>
  ⟨(HX.out.below hb).cell 0 rfl, (HX.out.below hb).cell 1 rfl, (HX.out.below hb).cell 2 rfl, (HX.out.below hb).cell 3 rfl⟩
 have hb1 : Below w.heap.size w wB.drew := hb0.trans (hD.mono hb0.size)
 have hfo := follow_any lo lo2 t lv ev sv cur l wB.drew hv (hl.below hb1) (he.below hb1) (hs.below hb1)
 rw [followL_no hv cur hno] at hfo
 have HF := Lib.hid hfo
 have HIN : Hid (∀ w' v, Below wB.heap.size wB w' → SliceK 1 encI wB.drew.heap.size w' v ([] : List Int) → Calls Tryz.prog 136 #[.agg #[.int .i64 t.states, .int .i64 t.initial, lv, ev], v] w' (MadeNums [] w')) := fun w' v hb hs' => by
  have h := internal_any lo _ t lv ev v [] w' HV.out (HL.out.below (HB0.out.trans (hb.mono HB0.out.size))) (HE.out.below (HB0.out.trans (hb.mono HB0.out.size))) hs' (fun x hx => by cases hx) (by simp)
  rw [setL_none HV.out] at h
  exact h
 clear hv hl he hs hno hb0 hx0 hwB hbx hD hb1 hfo
 go_enter Tryz.func137, Tryz.ntmps137
 go_wp2
 rw [← HWB.out, ← HBX.out]
 go_region_held3 (fun w' => w'.cell? ⟨bx, 0, none⟩ = some (.int .i64 t.states) ∧ w'.cell? ⟨bx, 1, none⟩ = some (.int .i64 t.initial) ∧ w'.cell? ⟨bx, 2, none⟩ = some lv ∧ w'.cell? ⟨bx, 3, none⟩ = some ev)
  (first
   | exact HSW.out _ (Below.refl _ _)
   | exact HSW.out _ HD.out
   | exact HSW.out _ hq1
   | exact HSW.out _ hq2
   | go_keep)
  (first
   | (go_at_call 134; refine Calls.mono HF.out ?_; rintro e w1 ⟨v1, rfl, hb1, ho1⟩; have hq1 : Below wB.heap.size wB w1 := HD.out.trans (hb1.mono (by simp)))
   | (go_at_call 136; refine Calls.mono (HIN.out _ _ hq1 (SliceK.of_owns (enc := encI) encI_len rfl (by rw [flat_encI]; exact ho1))) ?_; rintro e w2 ⟨v2, rfl, hb2, ho2⟩; have hq2 : Below wB.heap.size wB w2 := hq1.trans (hb2.mono hq1.size))
   | fail)
 all_goals (
  have hq1s := hq1.size
  have HBF := Lib.hid (HB0.out.trans (hq2.mono HB0.out.size))
  have HOF := Lib.hid (own_lower ho2 (Nat.le_trans HB0.out.size hq1s))
  clear hb1 ho1 hq1 hb2 ho2 hq2 hq1s
  go_wp2
  go_ret
  exact ⟨_, rfl, HBF.out, HOF.out⟩)
theorem visL_any (lo lo2 : Nat) (t : Lts) (lv ev sv : Value) (cur : List Int) (l : ByteArray) (w : World) (hv : Valid t) (hl : SliceK 1 encS lo w lv t.labels) (he : SliceK 3 encE lo w ev t.edges) (hs : SliceK 1 encI lo2 w sv cur) :
  Calls Tryz.prog 137 #[.agg #[.int .i64 t.states, .int .i64 t.initial, lv, ev], sv, .string l] w (MadeNums (nxtL t cur l) w) := by
 unfold nxtL
 cases h : inT t.labels l
 ·rw [if_neg (by simp)]
  exact visNo_any lo lo2 t lv ev sv cur l w hv hl he hs h
 ·rw [if_pos rfl]
  obtain ⟨hk, hg, -⟩ := idxL_get (inT_mem.1 h)
  exact visible_any lo lo2 t lv ev sv cur l w hv hl he hs hk hg

theorem aftL_take (t : Lts) (tr : List ByteArray) {k : Nat} (h : k < tr.length) : aftL t (tr.take (k + 1)) = nxtL t (aftL t (tr.take k)) tr[k] := by rw [List.take_succ_eq_append_getElem h, aftL_snoc]

set_option maxRecDepth 100000 in
set_option maxHeartbeats 4000000 in
theorem after_any (lo lo2 : Nat) (t : Lts) (lv ev tv : Value) (tr : List ByteArray) (w : World) (hv : Valid t) (hl : SliceK 1 encS lo w lv t.labels) (he : SliceK 3 encE lo w ev t.edges) (ht : SliceK 1 encS lo2 w tv tr) (hz : tr.length ≤ 100000) :
  Calls Tryz.prog 76 #[.agg #[.int .i64 t.states, .int .i64 t.initial, lv, ev], tv] w (MadeNums (aftL t tr) w) := by
 obtain ⟨tb, htb⟩ : ∃ tb, tb = w.heap.size := ⟨_, rfl⟩
 obtain ⟨wA, hwA⟩ : ∃ wA, wA = w.alloc (.cells #[.int .i64 t.states, .int .i64 t.initial, lv, ev] 31) := ⟨_, rfl⟩
 have hbA : Below w.heap.size w wA := by rw [hwA]; exact (Below.refl _ _).alloc (Nat.le_refl _) _
 have hT : Blk wA tb [.int .i64 t.states, .int .i64 t.initial, lv, ev] 31 := by rw [hwA, htb]; exact Blk.new w _ _
 have hsA : wA.heap.size = tb + 1 := by rw [hwA, htb]; simp
 obtain ⟨w1, hw1⟩ : ∃ w1, w1 = wA.alloc (.cells #[.int .i64 t.initial] 2) := ⟨_, rfl⟩
 have hb1 : Below wA.heap.size wA w1 := by rw [hw1]; exact (Below.refl _ _).alloc (Nat.le_refl _) _
 have hS : SliceK 1 encI 0 w1 (.slice (some ⟨tb + 1, 0, none⟩) 1 1) [t.initial] := by
  have := World.ownsRow_lit (base := 0) (e := 2) (size := 1) wA #[.int .i64 t.initial] 1 (Nat.zero_le _) (by decide) (by simp)
  rw [hsA] at this
  rw [hw1]
  exact SliceK.of_owns (e := 2) encI_len rfl (by rw [flat_encI]; simpa using this)
 have hIN := internal_any lo 0 t lv ev _ [t.initial] w1 hv ((hl.below hbA).below hb1) ((he.below hbA).below hb1) hS (fun x hx => by rw [List.mem_singleton] at hx; subst hx; exact ⟨hv.in0, hv.in1⟩) (by simp)
 rw [firstS_eq] at hIN
 have HIN := Lib.hid hIN
 have HV := Lib.hid hv
 have HL := Lib.hid (hl.below hbA)
 have HE := Lib.hid (he.below hbA)
 have HTV := Lib.hid (ht.below hbA)
 have HT := Lib.hid hT
 have HBA := Lib.hid hbA
 have HB1 := Lib.hid hb1
 have HWA := Lib.hid hwA
 have HW1 := Lib.hid hw1
 have HTB := Lib.hid htb
 obtain ⟨ta, tc, rfl, -, -, -⟩ := ht
 obtain ⟨N, hN⟩ : ∃ N, N = tr.length := ⟨_, rfl⟩
 rw [← hN] at hz HTV ⊢
 have HN := Lib.hid hN
 clear hv hl he hwA hbA hT hw1 hb1 hS hIN htb hsA hN
 go_enter Tryz.func76, Tryz.ntmps76
 go_wp2_with fail
 rw [← HWA.out, ← HW1.out, ← HTB.out]
 refine Calls.mono HIN.out ?_
 rintro e w2 ⟨v2, rfl, hb2, ho2⟩
 have HB2 := Lib.hid (HB1.out.trans (hb2.mono HB1.out.size))
 have HO2 := Lib.hid (own_lower ho2 HB1.out.size)
 clear hb2 ho2 HIN
 go_wp2
 go_loopw [5, 15] (fun v5 v15 wr => ∃ k : Nat, k ≤ N ∧ v15 = .int .i64 k ∧ Below wA.heap.size wA wr ∧ wr.ownsRow wA.heap.size 2 1 v5 (aftL t (tr.take k)).length ((aftL t (tr.take k)).map (Value.int .i64))) (fun _ v15 _ => N - (intOf v15).toNat)
 case atStart => exact ⟨0, Nat.zero_le _, rfl, HB2.out, HO2.out⟩
 case round =>
  clear HO2
  obtain ⟨k, hk, rfl, hbl, ho⟩ := hrel
  have HBL := Lib.hid hbl
  have HO := Lib.hid ho
  have hsz := hbl.size
  obtain ⟨va, vc, hv5, -, -⟩ := owns_slice ho
  subst hv5
  by_cases hlt : k < N
  ·have hlt2 : k < tr.length := by rw [← HN.out]; exact hlt
   obtain ⟨a9, c9, h9, -, -, hr9⟩ := HTV.out.below hbl
   simp only [Value.slice.injEq] at h9
   obtain ⟨rfl, -, rfl⟩ := h9
   obtain ⟨b, o, rfl, -, hb, cx⟩ := hr9.one hlt2
   simp only [encS, List.getElem?_cons_zero] at cx
   have HNX := Lib.hid (aftL_take t tr hlt2)
   obtain ⟨l, hl⟩ : ∃ l, l = tr[k] := ⟨_, rfl⟩
   rw [← hl] at cx HNX
   have x0 := (HT.out.below hbl).cell 0 rfl
   have x1 := (HT.out.below hbl).cell 1 rfl
   have x2 := (HT.out.below hbl).cell 2 rfl
   have x3 := (HT.out.below hbl).cell 3 rfl
   obtain ⟨cur, hcur⟩ : ∃ cur, cur = aftL t (tr.take k) := ⟨_, rfl⟩
   rw [← hcur] at ho HO HNX ⊢
   have HVS := Lib.hid (visL_any lo wA.heap.size t lv ev (.slice va cur.length vc) cur l wr HV.out (HL.out.below hbl) (HE.out.below hbl) (SliceK.of_owns (e := 2) encI_len rfl (by rw [flat_encI]; exact ho)))
   obtain ⟨CN, hCN⟩ : ∃ CN, CN = cur.length := ⟨_, rfl⟩
   rw [← hCN] at HVS ⊢
   clear hbl ho hr9 hl hcur hCN
   go_wp2_with fail
   refine Calls.mono HVS.out ?_
   rintro e w3 ⟨v3, rfl, hb3, ho3⟩
   have HB3 := Lib.hid (HBL.out.trans (hb3.mono hsz))
   have HO3 : Hid (w3.ownsRow wA.heap.size 2 1 v3 (aftL t (tr.take (k + 1))).length ((aftL t (tr.take (k + 1))).map (Value.int .i64))) := by
    unfold Hid; rw [HNX.out]; exact own_lower ho3 hsz
   clear hb3 ho3 HVS x0 x1 x2 x3 cx
   go_wp2
   go_roundw
   case rel => exact ⟨k + 1, by omega, by go_num, HB3.out, HO3.out⟩
   case measure => simp [intOf]; omega
  ·obtain rfl : k = N := by omega
   have HF : Hid (aftL t (tr.take k) = aftL t tr) := by unfold Hid; rw [List.take_of_length_le (by have := HN.out; omega)]
   clear hbl ho
   go_wp2
   go_ret
   refine ⟨_, rfl, HBA.out.trans (HBL.out.mono HBA.out.size), ?_⟩
   rw [← HF.out]
   exact own_lower HO.out HBA.out.size

set_option maxRecDepth 100000 in
set_option maxHeartbeats 4000000 in
theorem undetermined_any (lo lo2 : Nat) (t : Lts) (lv ev sv : Value) (S : List Int) (w : World) (hv : Valid t) (hl : SliceK 1 encS lo w lv t.labels) (he : SliceK 3 encE lo w ev t.edges) (hs : SliceK 1 encI lo2 w sv S) (hz : S.length ≤ 1000) :
  Calls Tryz.prog 75 #[.agg #[.int .i64 t.states, .int .i64 t.initial, lv, ev], sv] w fun e w' => e = .returned (.string (undetL t S)) ∧ Below w.heap.size w w' := by
 obtain ⟨tb, htb⟩ : ∃ tb, tb = w.heap.size := ⟨_, rfl⟩
 obtain ⟨wA, hwA⟩ : ∃ wA, wA = w.alloc (.cells #[.int .i64 t.states, .int .i64 t.initial, lv, ev] 31) := ⟨_, rfl⟩
 have hbA : Below w.heap.size w wA := by rw [hwA]; exact (Below.refl _ _).alloc (Nat.le_refl _) _
 have hT : Blk wA tb [.int .i64 t.states, .int .i64 t.initial, lv, ev] 31 := by rw [hwA, htb]; exact Blk.new w _ _
 have HV := Lib.hid hv
 have HL := Lib.hid (hl.below hbA)
 have HE := Lib.hid (he.below hbA)
 have HS := Lib.hid (hs.below hbA)
 obtain ⟨al, cl, rfl, hlc, hcc, hlrow⟩ := hl.below hbA
 have hL1 := hv.labels.pos
 have hL12 := hv.labels.most
 obtain ⟨bl, ol, rfl, hblw, hcl⟩ : ∃ bl ol, al = some ⟨bl, ol, none⟩ ∧ bl < wA.heap.size ∧ ∀ i (h : i < t.labels.length), wA.cell? ⟨bl, ol + i, none⟩ = some (.string t.labels[i]) := by
  rcases hlrow with h | ⟨bl, ol, h1, -, h3, h4⟩
  ·omega
  ·exact ⟨bl, ol, h1, h3, fun i hi => by have := h4 i hi 0 (by omega); simpa [encS] using this⟩
 obtain ⟨LN, hLN⟩ : ∃ LN, LN = t.labels.length := ⟨_, rfl⟩
 rw [← hLN] at hT hwA hlc hL1 hL12 HL ⊢
 have HLN := Lib.hid hLN
 obtain ⟨pk, hpk⟩ : ∃ pk, pk = (if cl = 1 then (⟨bl, ol, none⟩ : Addr) else (⟨bl, ol, none⟩ : Addr).add 1) := ⟨_, rfl⟩
 have HPK := Lib.hid hpk
 have hsl := slice_from 22 9 1 Tryz.underlying22 (fun _ => by kernel_rfl) ⟨bl, ol, none⟩ LN cl hL1
 rw [← hpk] at hsl
 have HCL := Lib.hid hcl
 have HT := Lib.hid hT
 have HBA := Lib.hid hbA
 have HWA := Lib.hid hwA
 have HTB := Lib.hid htb
 have c2 := hT.cell 2 rfl
 have htl := hT.lt
 rw [hwA, htb] at c2
 obtain ⟨sa, sc, rfl, -, -, -⟩ := hs
 obtain ⟨SN, hSN⟩ : ∃ SN, SN = S.length := ⟨_, rfl⟩
 rw [← hSN] at hz HS ⊢
 have HSN := Lib.hid hSN
 clear hv hl he hwA hbA hT htb hLN hcl hlrow hpk hSN
 go_enter Tryz.func75, Tryz.ntmps75
 go_wp2
 rw [← HWA.out]
 try rw [← HTB.out]
 clear hsl
 go_loopw [11] (fun v11 wr => ∃ k : Nat, k ≤ LN - 1 ∧ v11 = .int .i64 k ∧ Below wA.heap.size wA wr ∧ ∀ j, j < k → sometimes t S (labK t.labels j) = false) (fun v11 _ => LN - (intOf v11).toNat)
 case atStart => exact ⟨0, Nat.zero_le _, rfl, Below.refl _ _, fun j h => by omega⟩
 case round =>
  obtain ⟨k, hk, rfl, hbl, hno⟩ := hrel
  have HBL := Lib.hid hbl
  have HNO := Lib.hid hno
  have hsz := hbl.size
  clear hno
  by_cases hlt : k < LN - 1
  ·have hk2 : k + 1 < t.labels.length := by have := HLN.out; omega
   have hpk' : pk = ⟨bl, ol + 1, none⟩ := by rw [HPK.out, if_neg (by omega), Addr.add_lit]
   subst hpk'
   have cx := keeps hbl hblw (HCL.out (k + 1) hk2)
   rw [show ol + (k + 1) = ol + 1 + k from by omega] at cx
   have hlk := labK_get hk2
   obtain ⟨l, hl⟩ : ∃ l, l = t.labels[k + 1] := ⟨_, rfl⟩
   rw [← hl] at cx hlk
   have HLK := Lib.hid hlk
   have x0 := (HT.out.below hbl).cell 0 rfl
   have x1 := (HT.out.below hbl).cell 1 rfl
   have x2 := (HT.out.below hbl).cell 2 rfl
   have x3 := (HT.out.below hbl).cell 3 rfl
   have HFO := Lib.hid (follow_any lo lo2 t (.slice (some ⟨bl, ol, none⟩) LN cl) ev (.slice sa SN sc) S l wr HV.out (HL.out.below hbl) (HE.out.below hbl) (HS.out.below hbl))
   have hsm : sometimes t S l = (decide (0 < (followL t S l).length) && refuseB t S l) := rfl
   have hre : ((stabs t S).any (refusesAll t [l])) = refuseB t S l := by
    unfold refuseB
    congr 1
    funext j
    exact refusesAll_one t l j
   have hblr : bl < wr.heap.size := by omega
   have htlr : tb < wr.heap.size := by omega
   obtain ⟨FN, hFN⟩ : ∃ FN, FN = (followL t S l).length := ⟨_, rfl⟩
   rw [← hFN] at hsm
   have HFN := Lib.hid hFN
   have HSM := Lib.hid hsm
   have HRE := Lib.hid hre
   clear hbl hl hlk hsm hre hFN
   go_wp2_with fail
   refine Calls.mono HFO.out ?_
   rintro e w3 ⟨v3, rfl, hb3, ho3⟩
   obtain ⟨a3, c3, rfl, -, -⟩ := owns_slice ho3
   rw [← HFN.out]
   have HB3 := Lib.hid (HBL.out.trans (hb3.mono hsz))
   have hb3A := HBL.out.trans (hb3.mono hsz)
   have y0 := (HT.out.below hb3A).cell 0 rfl
   have y1 := (HT.out.below hb3A).cell 1 rfl
   have y2 := (HT.out.below hb3A).cell 2 rfl
   have y3 := (HT.out.below hb3A).cell 3 rfl
   have hsz3 := hb3A.size
   clear hb3 ho3 HFO x0 x1 x2 x3 cx
   by_cases h0 : FN = 0
   ·have hd0 : decide ((0 : Int) < (FN : Int)) = false := decide_eq_false (by omega)
    have hd1 : ¬ (0 : Int) < (FN : Int) := by omega
    have hd2 : decide (0 < FN) = false := decide_eq_false (by omega)
    have HSM2 : Hid (sometimes t S l = false) := by unfold Hid; rw [HSM.out, hd2, Bool.false_and]
    clear hb3A h0
    go_wp2
    go_roundw
    case rel => exact ⟨k + 1, by omega, by go_num, HB3.out, fun j hj => by
     by_cases e : j = k
     ·subst e; rw [HLK.out]; exact HSM2.out
     ·exact HNO.out j (by omega)⟩
    case measure => simp [intOf]; omega
   ·have hd0 : decide ((0 : Int) < (FN : Int)) = true := decide_eq_true (by omega)
    have hd1 : (0 : Int) < (FN : Int) := by omega
    have hd2 : decide (0 < FN) = true := decide_eq_true (by omega)
    obtain ⟨rb, hrb⟩ : ∃ rb, rb = refuseB t S l := ⟨_, rfl⟩
    have HSM2 : Hid (sometimes t S l = rb) := by unfold Hid; rw [HSM.out, hd2, Bool.true_and, hrb]
    have hA : Below w3.heap.size w3 (w3.alloc (.cells #[.string l] 9)) := (Below.refl _ _).alloc (Nat.le_refl _) _
    have hAA := hb3A.trans (hA.mono hsz3)
    have h2 : SliceK 1 encS w3.heap.size (w3.alloc (.cells #[.string l] 9)) (.slice (some ⟨w3.heap.size, 0, none⟩) 1 1) [l] := SliceK.of_owns (e := 9) encS_len rfl (World.ownsRow_lit (base := w3.heap.size) (e := 9) (size := 1) w3 #[.string l] 1 (Nat.le_refl _) (by decide) rfl)
    have hrf := refuse_any lo lo2 w3.heap.size t (.slice (some ⟨bl, ol, none⟩) LN cl) ev (.slice sa SN sc) (.slice (some ⟨w3.heap.size, 0, none⟩) 1 1) S [l] (w3.alloc (.cells #[.string l] 9)) HV.out (HL.out.below hAA) (HE.out.below hAA) (HS.out.below hAA) h2 (by have := HSN.out; omega) (by simp)
    rw [HRE.out, ← hrb] at hrf
    have HRF := Lib.hid hrf
    have HAA := Lib.hid hAA
    clear hb3A h0 hrb hA hAA h2 hrf
    go_wp2_with fail
    refine Calls.mono HRF.out ?_
    rintro e w4 ⟨rfl, hb4⟩
    have HB4 := Lib.hid (HAA.out.trans (hb4.mono HAA.out.size))
    clear hb4 HRF
    cases rb
    ·go_wp2
     go_roundw
     case rel => exact ⟨k + 1, by omega, by go_num, HB4.out, fun j hj => by
      by_cases e : j = k
      ·subst e; rw [HLK.out]; exact HSM2.out
      ·exact HNO.out j (by omega)⟩
     case measure => simp [intOf]; omega
    ·have HU : Hid (undetL t S = l) := by unfold Hid; rw [undet_first hk2 (by rw [HLK.out]; exact HSM2.out) HNO.out, HLK.out]
     go_wp2
     go_ret
     exact ⟨by rw [HU.out]; rfl, HBA.out.trans (HB4.out.mono HBA.out.size)⟩
  ·have HU : Hid (undetL t S = ByteArray.empty) := by
    have h := undet_none HV.out (S := S) fun j hj => HNO.out j (by have := HLN.out; omega)
    exact Classical.not_not.1 h
   clear hbl
   go_wp2
   go_ret
   exact ⟨by rw [HU.out]; rfl, HBA.out.trans (HBL.out.mono HBA.out.size)⟩

end Go.Proofs.YtpoleaekcjjedaaGreatDoor
