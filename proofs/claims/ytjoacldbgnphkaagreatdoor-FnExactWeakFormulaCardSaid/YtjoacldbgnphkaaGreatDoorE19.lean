/-
  The program's single and rounds.
  The program's statesCode.
  The program's distinguish.
  The reference's l14Apart, l14Two and l14Same.
  The reference's l14Lone and l14Two.
-/
import Derived.Test.YtjoacldbgnphkaaGreatDoorE18
import Derived.Test.YtjoacldbgnphkaaGreatDoorE12
import Derived.Test.YtjoacldbgnphkaaGreatDoorE7
import Derived.Test.YtjoacldbgnphkaaGreatDoorE17
import Derived.Test.YtjoacldbgnphkaaGreatDoorE13
import Derived.Test.YtjoacldbgnphkaaGreatDoorE9
import Derived.Test.YtjoacldbgnphkaaGreatDoorE2
namespace Go.Proofs.YtjoacldbgnphkaaGreatDoor
open Go Go.RowKit


set_option maxRecDepth 100000 in
set_option maxHeartbeats 1000000 in
theorem single_any (S : Nat) (t : Lts) (w : World) (hS : t.states.toNat = S) (hS40 : S ≤ 40) : Calls Tryz.prog 66 #[.int .i64 S] w (MadeNums (lev t 0) w) := by
 obtain ⟨i1, hi1, hz10, hz11, hz12⟩ := info_parts info_int64N
 go_enter Tryz.func66, Tryz.ntmps66
 go_wp2_with (at_make; refine wpList_make_full _ rfl _ _ 69 rfl w.heap.size 2 i1 _ 1 Tryz.underlying69 hi1 hz10 hz11 .i64 .i64 _ _ S rfl rfl rfl rfl ?_ ?_ ?_ ?_)
 ·rw [hz12]; omega
 ·simp [maxLen]; omega
 ·exact Nat.le_refl _
 intro w1 ho hg
 rw [toList_madeCells_one] at ho
 have HR : Hid (MadeNums (lev t 0) w (.returned (.slice (some ⟨w.heap.size, 0, none⟩) S S)) w1) := by
  refine ⟨_, rfl, (Below.refl _ _).grown hg (Nat.le_refl _) (fun _ h => by cases h), ?_⟩
  rw [lev_zero, hS, List.length_replicate, List.map_replicate]
  simpa using ho
 clear ho hg
 go_wp2
 go_ret
 exact HR.out

set_option maxRecDepth 100000 in
set_option maxHeartbeats 4000000 in
theorem rounds_any (lo S : Nat) (t : Lts) (lv ev : Value) (w : World) (hv : Valid t) (hS : (S : Int) = t.states) (he : SliceK 3 encE lo w ev t.edges) :
  Calls Tryz.prog 46 #[.int .i64 S, .func (.func 47) #[.agg #[.int .i64 t.states, .int .i64 t.initial, lv, ev]] #[]] w (MadeIntss (levs t) w) := by
 have HV := Lib.hid hv
 have hs0 := hv.st0
 have hs1 := hv.st1
 have hS40 : S ≤ 40 := by omega
 have hS1 : 1 ≤ S := by omega
 have hSN : t.states.toNat = S := by omega
 have HSN := Lib.hid hSN
 obtain ⟨hlast, hst, hch⟩ := last_ok hv
 rw [hSN] at hlast
 have HST := Lib.hid hst
 have HCH := Lib.hid hch
 have HNX : Hid (∀ (k : Nat) (lo2 : Nat) (pv : Value) (w' : World), Below w.heap.size w w' → SliceK 1 encI lo2 w' pv (lev t k) → Calls Tryz.prog 47 #[.agg #[.int .i64 t.states, .int .i64 t.initial, lv, ev], pv] w' (MadeNums (lev t (k + 1)) w')) := fun k lo2 pv w' hb hpv => by
  have h := refine_any lo lo2 S t (lev t k) lv ev pv w' hv hS (lev_in hv k) (he.below hb) hpv
  have e := lev_imp hv k
  rw [hSN] at e
  rw [e] at h
  exact h
 have HSG := Lib.hid (single_any S t w hSN hS40)
 obtain ⟨i2, hi2, hz20, hz21, hz22⟩ := info_parts info_sliceL
 clear hv hS hs0 hs1 hst hch he
 go_enter Tryz.func46, Tryz.ntmps46
 go_wp2_with fail
 refine Calls.mono HSG.out ?_
 rintro e w1 ⟨v1, rfl, hb1, ho1⟩
 have hl0 : (lev t 0).length = S := by rw [lev_len]; exact hSN
 have hsz1 : w.heap.size ≤ w1.heap.size := hb1.size
 obtain ⟨ga, gc, rfl, -, -⟩ := owns_slice ho1
 obtain ⟨w2, hw2⟩ : ∃ w2, w2 = w1.alloc (.cells #[.slice ga (lev t 0).length gc] 69) := ⟨_, rfl⟩
 have hal : Below w1.heap.size w1 w2 := by rw [hw2]; exact (Below.refl _ _).alloc (Nat.le_refl _) _
 have HO : Hid (OwnIntss 69 2 w.heap.size w2 (.slice (some ⟨w1.heap.size, 0, none⟩) 1 1) [.slice ga (lev t 0).length gc] [lev t 0]) := by
  have h2 := World.ownsRow_lit (base := w.heap.size) (size := 1) w1 #[.slice ga (lev t 0).length gc] (e := 69) 1 hsz1 (by simp [maxLen]) rfl
  rw [← hw2] at h2
  exact owns_one h2 (owns_below ho1 hal)
 have HB2 : Hid (Below w.heap.size w w2) := hb1.trans (hal.mono hsz1)
 have HW2 := Lib.hid hw2
 clear ho1 hb1 hw2 hal HSG hl0
 go_wp2_with fail
 rw [← HW2.out]
 go_loopw [5] (fun v5 wr => ∃ (k : Nat) (g c : Nat) (vs : List Value), k ≤ lastR t ∧ v5 = .slice (some ⟨g, 0, none⟩) (k + 1) c ∧ Below w.heap.size w wr ∧ OwnIntss 69 2 w.heap.size wr (.slice (some ⟨g, 0, none⟩) (k + 1) c) vs ((List.range (k + 1)).map (lev t))) (fun v5 _ => S - (match v5 with | .slice _ n _ => n | _ => 0))
 case atStart => exact ⟨0, w1.heap.size, 1, _, Nat.zero_le _, rfl, HB2.out, HO.out⟩
 case round =>
  clear HO HB2 HW2
  obtain ⟨k, g, c, vs, hk, rfl, hbl, ho⟩ := hrel
  obtain ⟨wC, rfl⟩ : ∃ wC : World, wC = wr := ⟨_, rfl⟩
  have hvl : vs.length = k + 1 := by have := ho.1; simpa using this
  have hkl : k < vs.length := by omega
  have hrow0 := ho.2.2.1 k hkl (by simp)
  have hrow : wC.ownsRow w.heap.size 2 1 vs[k] (lev t k).length ((lev t k).map (Value.int .i64)) := by simpa using hrow0
  have hh := ho.2.1
  rw [hvl] at hh
  have z0 := hh.cellAt k (by omega)
  rw [List.getElem?_eq_getElem hkl] at z0
  obtain ⟨rv, hrv⟩ : ∃ rv, rv = vs[k] := ⟨_, rfl⟩
  rw [← hrv] at z0 hrow
  obtain ⟨pa, pc, rfl, -, -⟩ := owns_slice hrow
  have hlk : (lev t k).length = S := by rw [lev_len]; exact hSN
  have hsl : SliceK 1 encI w.heap.size wC (.slice pa (lev t k).length pc) (lev t k) := SliceK.of_owns (enc := encI) (e := 2) encI_len rfl (by rw [flat_encI]; exact hrow)
  have hk40 : k < 40 := by omega
  have HB := Lib.hid hbl
  have HO := Lib.hid ho
  have HSL := Lib.hid hsl
  have HN := Lib.hid (HNX.out k _ _ wC hbl hsl)
  have hszC := hbl.size
  have HVL := Lib.hid hvl
  have HLK := Lib.hid hlk
  clear hbl ho hsl hvl hkl hrow0 hrow hh hrv hlk
  go_wp2_with fail
  refine Calls.mono HN.out ?_
  rintro e wD ⟨qv, rfl, hb, hq⟩
  have hq1 : (lev t (k + 1)).length = S := by rw [lev_len]; exact hSN
  obtain ⟨qa, qc, rfl, -, -⟩ := owns_slice hq
  have HBD := Lib.hid hb
  have HQ := Lib.hid hq
  have hszD := hb.size
  have hsq : SliceK 1 encI wC.heap.size wD (.slice qa (lev t (k + 1)).length qc) (lev t (k + 1)) := SliceK.of_owns (enc := encI) (e := 2) encI_len rfl (by rw [flat_encI]; exact hq)
  have HSM := Lib.hid (EqualI_any w.heap.size wC.heap.size _ _ _ _ wD (HSL.out.below hb) hsq (fun e => by have := HLK.out; rw [e] at this; simp at this; omega) (fun e => by rw [e] at hq1; simp at hq1; omega))
  have HLQ := Lib.hid hq1
  clear hb hq hsq HN hq1
  go_wp2_with fail
  refine Calls.mono HSM.out ?_
  rintro e wE ⟨rfl, hb⟩
  have hbE : Below wC.heap.size wC wE := HBD.out.trans (hb.mono hszD)
  have HBE := Lib.hid hbE
  have HQE := Lib.hid (owns_below HQ.out hb)
  have HBW : Hid (Below w.heap.size w wE) := HB.out.trans (hbE.mono hszC)
  have hszE : wC.heap.size ≤ wE.heap.size := hbE.size
  clear hb hbE HSM HQ HBD
  by_cases hkl : k = lastR t
  ·have he : (lev t k == lev t (k + 1)) = true := by rw [beq_iff_eq, hkl]; exact HST.out
   have HKL := Lib.hid hkl
   have HOE := Lib.hid (HO.out.below HBE.out)
   clear hkl
   rw [he]
   go_wp2
   go_ret
   refine ⟨_, vs, rfl, HBW.out, ?_⟩
   have := HOE.out
   unfold levs
   rw [← HKL.out]
   exact this
  ·have he : (lev t k == lev t (k + 1)) = false := by
    rw [beq_eq_false_iff_ne]
    exact fun h => HCH.out k (by omega) h
   rw [he]
   have HOE := Lib.hid (HO.out.below HBE.out)
   have hor : wE.ownsRow w.heap.size 69 1 (.slice (some ⟨g, 0, none⟩) (k + 1) c) (k + 1) vs := by
    have := HOE.out.2.1
    rw [HVL.out] at this
    exact this
   have HOR := Lib.hid hor
   have hk1 : k + 1 ≤ lastR t := by omega
   clear hor hkl
   go_wp2_with (at_builtin; refine wpList_append_lies _ rfl _ _ 44 rfl w.heap.size 69 i2 (.slice none 0 0) 1 24 Tryz.underlying44 hi2 hz20 hz21 hz22 rfl (by decide) _ _ _ rfl (HOR.out.alloc _) ⟨wE.heap.size, 0, none⟩ 1 1 [.slice qa (lev t (k + 1)).length qc] rfl rfl ?c1 ?c2 ?c3 ?c4 ?c5 ?c6 _ rfl ?_)
   case c1 => exact World.news_of_block (cs := #[.slice qa (lev t (k + 1)).length qc]) (t := 69) (fr := (0, 0)) (heap_alloc_new _ _)
   case c2 => intro u hu; simp at hu; subst hu; rfl
   case c3 => omega
   case c4 => simp [maxLen]; omega
   case c5 => omega
   case c6 => simp; omega
   intro g3 cap3 w3 ho3 hg3 hat3 hlt3
   have hal : Below wE.heap.size wE (wE.alloc (.cells #[.slice qa (lev t (k + 1)).length qc] 69)) := (Below.refl _ _).alloc (Nat.le_refl _) _
   have HO3 : Hid (OwnIntss 69 2 w.heap.size w3 (.slice (some ⟨g3, 0, none⟩) (k + 1 + 1) cap3) (vs ++ [.slice qa (lev t (k + 1)).length qc]) ((List.range (k + 1 + 1)).map (lev t))) := by
    unfold Hid
    rw [levs_take]
    refine OwnIntss.push (B := wC.heap.size) (xs := lev t (k + 1)) (by decide) HO.out (Nat.le_refl _) (HBE.out.trans (hal.mono hszE)) (owns_below HQE.out hal) hszC hg3 ?_
    rw [HVL.out]
    exact ho3
   have HB3 : Hid (Below w.heap.size w w3) := (HBW.out.trans (hal.mono (by omega))).grown hg3 (by simp; omega) (fun b e => by cases e; exact (HOR.out.lt g rfl).1)
   clear ho3 hg3 hat3 hlt3 hal HOR HOE HO HQE
   go_wp2
   go_roundw
   case rel => exact ⟨k + 1, g3, cap3, _, hk1, rfl, HB3.out, HO3.out⟩
   case measure => simp; omega

end Go.Proofs.YtjoacldbgnphkaaGreatDoor

namespace Go.Proofs.YtjoacldbgnphkaaGreatDoor
open Go Go.RowKit

def outB (t : Lts) (xs : List Int) : Bool := xs.any fun x => !inB x 0 (t.states - 1)
set_option maxRecDepth 100000 in
set_option maxHeartbeats 1000000 in
theorem statesCode1_any (lv ev : Value) (t : Lts) (tb : Nat) (x : Int) (w : World) (hv : Valid t) (hT : Blk w tb [.int .i64 t.states, .int .i64 t.initial, lv, ev] 32) :
  Calls Tryz.prog 44 #[.int .i64 x, .pointer (some ⟨tb, 0, none⟩)] w fun e w' => e = .returned (.bool (!inB x 0 (t.states - 1))) ∧ Below w.heap.size w w' := by
 have x0 := hT.cell 0 rfl
 have x1 := hT.cell 1 rfl
 have x2 := hT.cell 2 rfl
 have x3 := hT.cell 3 rfl
 have HIS := Lib.hid (isState_any lv ev t.states t.initial x w hv.st0 hv.st1)
 clear hT
 go_enter Tryz.func44, Tryz.ntmps44
 go_wp2_with fail
 refine Calls.mono HIS.out ?_
 rintro e w1 ⟨rfl, hb1⟩
 have HB := Lib.hid hb1
 clear hb1 HIS
 go_wp2
 go_ret
 exact ⟨rfl, HB.out⟩

set_option maxRecDepth 100000 in
set_option maxHeartbeats 2000000 in
theorem statesCode_any (lo lo2 : Nat) (t : Lts) (lv ev sv : Value) (xs : List Int) (w : World) (hsh : Short20 t.labels) (hl : SliceK 1 encS lo w lv t.labels) (he : SliceK 3 encE lo w ev t.edges) (hx : SliceK 1 encI lo2 w sv xs) (g : Glob w) :
  Calls Tryz.prog 25 #[.agg #[.int .i64 t.states, .int .i64 t.initial, lv, ev], sv] w fun e w' => Below w.heap.size w w' ∧ ∃ c : Int, e = .returned (.int .i64 c) ∧ ((¬ Valid t ∧ c = 1) ∨ (Valid t ∧ outB t xs = true ∧ c = 2) ∨ (Valid t ∧ outB t xs = false ∧ c = 0)) := by
 obtain ⟨tb, htb⟩ : ∃ tb, tb = w.heap.size := ⟨_, rfl⟩
 obtain ⟨wA, hwA⟩ : ∃ wA, wA = w.alloc (.cells #[.int .i64 t.states, .int .i64 t.initial, lv, ev] 32) := ⟨_, rfl⟩
 have hbA : Below w.heap.size w wA := by rw [hwA]; exact (Below.refl _ _).alloc (Nat.le_refl _) _
 have hT : Blk wA tb [.int .i64 t.states, .int .i64 t.initial, lv, ev] 32 := by rw [hwA, htb]; exact Blk.new w _ _
 have HVL := Lib.hid (ValidLts_any lo t lv ev wA hsh (hl.below hbA) (he.below hbA) (g.below hbA))
 have HX := Lib.hid hx
 have HBA := Lib.hid hbA
 have HT := Lib.hid hT
 have HWA := Lib.hid hwA
 have HTB := Lib.hid htb
 have hsW : w.heap.size ≤ wA.heap.size := hbA.size
 clear hsh hl he hwA hbA hT htb hx g
 by_cases hv : Valid t
 ·have HV := Lib.hid hv
  have HVA : Hid (Calls Tryz.prog 42 #[.agg #[.int .i64 t.states, .int .i64 t.initial, lv, ev]] wA fun e w' => e = .returned (.bool true) ∧ Below wA.heap.size wA w') := Decides.yes HVL.out hv
  clear hv HVL
  go_enter Tryz.func25, Tryz.ntmps25
  go_wp2_with fail
  rw [← HWA.out]
  (try rw [← HTB.out])
  refine Calls.mono HVA.out ?_
  rintro e w1 ⟨rfl, hb1⟩
  have HB1 : Hid (Below w.heap.size w w1) := HBA.out.trans (hb1.mono hsW)
  have HT1 := Lib.hid (HT.out.below hb1)
  have HCF := Lib.hid (ContainsFuncI lo2 sv xs 44 #[.pointer (some ⟨tb, 0, none⟩)] (fun x => !inB x 0 (t.states - 1)) w1 (HX.out.below HB1.out) (fun args w => by kernel_rfl) (fun w' hb x _ => statesCode1_any lv ev t tb x w' HV.out (HT1.out.below hb)))
  clear hb1 HVA
  go_wp2_with fail
  (try rw [← HTB.out])
  refine Calls.mono HCF.out ?_
  rintro e w2 ⟨rfl, hb2⟩
  have HB2 : Hid (Below w.heap.size w w2) := HB1.out.trans (hb2.mono HB1.out.size)
  obtain ⟨o, ho⟩ : ∃ o, o = outB t xs := ⟨_, rfl⟩
  have HO := Lib.hid ho
  unfold outB at ho
  rw [← ho]
  clear ho hb2 HCF
  cases o
  ·go_wp2
   go_ret
   exact ⟨HB2.out, _, rfl, .inr (.inr ⟨HV.out, HO.out.symm, rfl⟩)⟩
  ·go_wp2
   go_ret
   exact ⟨HB2.out, _, rfl, .inr (.inl ⟨HV.out, HO.out.symm, rfl⟩)⟩
 ·have HNV := Lib.hid hv
  have HVA : Hid (Calls Tryz.prog 42 #[.agg #[.int .i64 t.states, .int .i64 t.initial, lv, ev]] wA fun e w' => e = .returned (.bool false) ∧ Below wA.heap.size wA w') := Decides.no HVL.out hv
  clear hv HVL
  go_enter Tryz.func25, Tryz.ntmps25
  go_wp2_with fail
  rw [← HWA.out]
  (try rw [← HTB.out])
  refine Calls.mono HVA.out ?_
  rintro e w1 ⟨rfl, hb1⟩
  have HB1 : Hid (Below w.heap.size w w1) := HBA.out.trans (hb1.mono hsW)
  clear hb1 HVA
  go_wp2
  go_ret
  exact ⟨HB1.out, _, rfl, .inl ⟨HNV.out, rfl⟩⟩

end Go.Proofs.YtjoacldbgnphkaaGreatDoor

namespace Go.Proofs.YtjoacldbgnphkaaGreatDoor
open Go Go.RowKit


theorem tel_made {wM : World} {mb lo : Nat} {t : Lts} {lv ev rv : Value} (hm : ValMap wM mb []) (hl : SliceK 1 encS lo wM lv t.labels) (he : SliceK 3 encE lo wM ev t.edges) (hr : IntssAt lo wM rv (levs t)) :
  Below wM.heap.size wM (wM.alloc (.cells #[.int .i64 t.states, .int .i64 t.initial, lv, ev, rv, .map (some mb)] 83)) ∧ Tel (wM.alloc (.cells #[.int .i64 t.states, .int .i64 t.initial, lv, ev, rv, .map (some mb)] 83)) wM.heap.size mb lo t lv ev rv ∧ TelMap (wM.alloc (.cells #[.int .i64 t.states, .int .i64 t.initial, lv, ev, rv, .map (some mb)] 83)) mb t [] := by
 have hb : Below wM.heap.size wM (wM.alloc (.cells #[.int .i64 t.states, .int .i64 t.initial, lv, ev, rv, .map (some mb)] 83)) := (Below.refl _ _).alloc (Nat.le_refl _) _
 exact ⟨hb, ⟨Blk.new wM _ _, hl.below hb, he.below hb, hr.below hb⟩, ⟨hm.below hb, by simp, by simp, by simp⟩⟩

set_option maxRecDepth 100000 in
set_option maxHeartbeats 4000000 in
theorem distinguish_any (lo S : Nat) (t : Lts) (lv ev : Value) (A B : Nat) (w : World) (hv : Valid t) (hS : (S : Int) = t.states) (hA : A < S) (hB : B < S) (hl : SliceK 1 encS lo w lv t.labels) (he : SliceK 3 encE lo w ev t.edges) (hlo : lo ≤ w.heap.size) :
  Calls Tryz.prog 26 #[.agg #[.int .i64 t.states, .int .i64 t.initial, lv, ev], .int .i64 A, .int .i64 B] w (RetDf t A B w) := by
 obtain ⟨tb, htb⟩ : ∃ tb, tb = w.heap.size := ⟨_, rfl⟩
 obtain ⟨wA, hwA⟩ : ∃ wA, wA = w.alloc (.cells #[.int .i64 t.states, .int .i64 t.initial, lv, ev] 32) := ⟨_, rfl⟩
 have hbA : Below w.heap.size w wA := by rw [hwA]; exact (Below.refl _ _).alloc (Nat.le_refl _) _
 have hT : Blk wA tb [.int .i64 t.states, .int .i64 t.initial, lv, ev] 32 := by rw [hwA, htb]; exact Blk.new w _ _
 have x0 := hT.cell 0 rfl
 have x1 := hT.cell 1 rfl
 have x2 := hT.cell 2 rfl
 have x3 := hT.cell 3 rfl
 have htw := hT.lt
 have HRD : Hid (∀ w', Below w.heap.size w w' → Calls Tryz.prog 46 #[.int .i64 t.states, .func (.func 47) #[.agg #[.int .i64 t.states, .int .i64 t.initial, lv, ev]] #[]] w' (MadeIntss (levs t) w')) := fun w' hb => by
  have h := rounds_any lo S t lv ev w' hv hS (he.below hb)
  rw [hS] at h
  exact h
 have HV := Lib.hid hv
 have HSS := Lib.hid hS
 have HL := Lib.hid hl
 have HE := Lib.hid he
 have HBA := Lib.hid hbA
 have HT := Lib.hid hT
 have HWA := Lib.hid hwA
 have HTB := Lib.hid htb
 have hsW : w.heap.size ≤ wA.heap.size := hbA.size
 have hmm := @run_makeMap Tryz.prog
 clear hv hS hl he hbA hT hwA htb
 go_enter Tryz.func26, Tryz.ntmps26
 go_wp2_with fail
 rw [← HWA.out]
 (try rw [← HTB.out])
 have HBD : Hid (∀ w', Below wA.heap.size wA w' → Below w.heap.size w w') := fun w' h => HBA.out.trans (h.mono hsW)
 have HKP : Hid (∀ w', Below wA.heap.size wA w' → (w'.cell? ⟨tb, 0, none⟩ = some (.int .i64 t.states) ∧ w'.cell? ⟨tb, 1, none⟩ = some (.int .i64 t.initial) ∧ w'.cell? ⟨tb, 2, none⟩ = some lv ∧ w'.cell? ⟨tb, 3, none⟩ = some ev)) := fun w' h => ⟨keeps h htw x0, keeps h htw x1, keeps h htw x2, keeps h htw x3⟩
 have hd1 : Below wA.heap.size wA wA.drew := (Below.refl _ _).drew
 have hd2 : Below wA.heap.size wA ((wA.alloc (.map #[] 0)).drew) := ((Below.refl _ _).alloc (Nat.le_refl _) _).drew
 go_region_held3 (fun w' => w'.cell? ⟨tb, 0, none⟩ = some (.int .i64 t.states) ∧ w'.cell? ⟨tb, 1, none⟩ = some (.int .i64 t.initial) ∧ w'.cell? ⟨tb, 2, none⟩ = some lv ∧ w'.cell? ⟨tb, 3, none⟩ = some ev)
  (first
   | (refine ⟨?_, ?_, ?_, ?_⟩ <;> assumption)
   | go_keep)
  (first
   | (go_at_call 46; refine Calls.mono (HRD.out _ (HBD.out _ hd1)) ?_; rintro e w2 ⟨rv, vs, rfl, hb2, ho2⟩; have hlv := ho2.at; obtain ⟨ra, rc, rfl, -, -⟩ := owns_slice ho2.2.1; have hq2 : Below wA.heap.size wA w2 := hd1.trans (hb2.mono hd1.size); obtain ⟨k0, k1, k2, k3⟩ := HKP.out _ hq2)
   | (go_at_call 46; refine Calls.mono (HRD.out _ (HBD.out _ hd2)) ?_; rintro e w2 ⟨rv, vs, rfl, hb2, ho2⟩; have hlv := ho2.at; obtain ⟨ra, rc, rfl, -, -⟩ := owns_slice ho2.2.1; have hq2 : Below wA.heap.size wA w2 := hd2.trans (hb2.mono hd2.size); obtain ⟨k0, k1, k2, k3⟩ := HKP.out _ hq2))
 next =>
  have hsz2 := hq2.size
  have hBw := HBD.out _ hq2
  have hr := (OwnIntss.lower ho2 (lo' := lo) (by simp; omega)).at
  obtain ⟨mb, hmb⟩ : ∃ mb, mb = w2.heap.size := ⟨_, rfl⟩
  have h0 : Below w2.heap.size w2 (w2.alloc (.map #[] 0)) := (Below.refl _ _).alloc (Nat.le_refl _) _
  have hm : ValMap (w2.alloc (.map #[] 0)) mb [] := by rw [hmb]; exact ValMap.made w2
  obtain ⟨h1, h2, h3⟩ := tel_made hm (HL.out.below (hBw.trans (h0.mono hBw.size))) (HE.out.below (hBw.trans (h0.mono hBw.size))) (hr.below h0)
  obtain ⟨wR, hwR⟩ : ∃ wR, wR = (w2.alloc (.map #[] 0)).alloc (.cells #[.int .i64 t.states, .int .i64 t.initial, lv, ev, .slice ra vs.length rc, .map (some mb)] 83) := ⟨_, rfl⟩
  obtain ⟨xb, hxb⟩ : ∃ xb, xb = w2.heap.size + 1 := ⟨_, rfl⟩
  rw [← hwR] at h1 h2 h3
  rw [World.size_alloc, ← hxb] at h2
  have HBR : Hid (Below w.heap.size w wR) := (hBw.trans (h0.mono hBw.size)).trans (h1.mono (by have := h0.size; have := hBw.size; omega))
  have HMB : Hid (w.heap.size ≤ mb) := by unfold Hid; have := hBw.size; omega
  rw [← hxb, ← hmb, ← hwR]
  have HTL := Lib.hid h2
  have HMP := Lib.hid h3
  have HDP := Lib.hid (depth_any xb mb lo S t lv ev _ A B wR HV.out HSS.out hA hB h2)
  clear hm h1 h2 h3 hr hb2 ho2 hlv hBw hq2 k0 k1 k2 k3 hwR hxb hmb
  go_wp2_with fail
  refine Calls.mono HDP.out ?_
  rintro e w3 ⟨rfl, hb3⟩
  have HAB : Hid ((0 ≤ (A : Int) ∧ (A : Int) < t.states) ∧ (0 ≤ (B : Int) ∧ (B : Int) < t.states)) := by unfold Hid; have := HSS.out; omega
  have HB3 : Hid (Below w.heap.size w w3) := HBR.out.trans (hb3.mono HBR.out.size)
  obtain ⟨n, hn⟩ : ∃ n, n = sepR t A B := ⟨_, rfl⟩
  by_cases hs : n = 0
  ·have hdI : depthI t A B = -1 := by unfold depthI; rw [← hn, if_pos hs]
   have HRS : Hid (RetDf t A B w (.returned (.tuple #[.slice none 0 0, .int .i64 3])) w3) := df_none HB3.out (.inr (.inr ⟨HV.out, HAB.out, .inl ⟨by rw [← hn]; exact hs, rfl, rfl⟩⟩))
   rw [hdI]
   clear hb3 hn hs hdI
   go_wp2
   refine bodyPost_ret (results_tmp2 rfl _ _ _) rfl ?_
   exact HRS.out
  ·have hdI : depthI t A B = (n : Int) := by unfold depthI; rw [← hn, if_neg hs]
   have hn0 : 0 < n := by omega
   have HN := Lib.hid hn
   have HTE := Lib.hid (tell_any xb mb lo S t lv ev _ HV.out HSS.out (sepR t A B) A B [] w3 hA hB (by rw [← hn]; exact hn0) (Nat.le_refl _) (HTL.out.below hb3) (HMP.out.below hb3))
   rw [hdI]
   have hni : ¬ ((n : Int) < 0) := by omega
   clear hb3 hn hs hdI
   go_wp2_with fail
   refine Calls.mono HTE.out ?_
   rintro e w4 ⟨v, ks2, rfl, hk, hg, -, -⟩
   have HB4 : Hid (Below w.heap.size w w4) := HB3.out.grown hg HB3.out.size (fun b e => by cases e; exact HMB.out)
   have hs4 : w.heap.size ≤ w4.heap.size := HB4.out.size
   obtain ⟨F, hF⟩ : ∃ F, F = tellT t A B := ⟨_, rfl⟩
   rw [← hF] at hk
   have hF2 : F.length ≤ 200 := by rw [hF]; exact tellT_short t _ _
   obtain ⟨fa, fc, rfl, hnil⟩ := hk.nil
   obtain ⟨FL, hFL⟩ : ∃ FL, FL = F.length := ⟨_, rfl⟩
   have HK := Lib.hid hk
   have HFE := Lib.hid hF
   have HFL := Lib.hid hFL
   have hEQ := eqNilN fa FL fc w4
   rw [← hFL] at hF2 HK ⊢
   rw [hnil] at hEQ
   by_cases hf : F = []
   ·have hd : decide (F = []) = true := decide_eq_true hf
    rw [hd] at hEQ
    have HRS : Hid (RetDf t A B w (.returned (.tuple #[.slice none 0 0, .int .i64 5])) w4) := df_none HB4.out (.inr (.inr ⟨HV.out, HAB.out, .inr (.inl ⟨by rw [← HN.out]; exact hn0, by rw [← HFE.out]; exact hf, rfl, rfl⟩)⟩))
    clear hk hg hF hf hFL hnil hd HTE
    go_wp2
    refine bodyPost_ret (results_tmp2 rfl _ _ _) rfl ?_
    exact HRS.out
   ·have hd : decide (F = []) = false := decide_eq_false hf
    rw [hd] at hEQ
    have hfo : FormO 0 w4 (.slice fa FL fc) F := by
     rcases HK.out with ⟨h, -⟩ | ⟨-, h⟩
     ·exact absurd h hf
     ·exact h
    have HCL := Lib.hid (CloneN_any _ F w4 hfo hf (by rw [← HFL.out]; exact hF2))
    have HDF : Hid (DfIs t A B F 0) := .inr (.inr ⟨HV.out, HAB.out, .inr (.inr ⟨by rw [← HN.out]; exact hn0, by rw [← HFE.out]; exact hf, HFE.out, rfl⟩)⟩)
    clear hk hg hF hf hFL hnil hd hfo HTE
    go_wp2_with fail
    refine Calls.mono HCL.out ?_
    rintro e w5 ⟨v5, rfl, ho5, hb5⟩
    have HRS : Hid (RetDf t A B w (.returned (.tuple #[v5, .int .i64 0])) w5) := ⟨HB4.out.trans (hb5.mono hs4), F, 0, v5, rfl, HDF.out, own_lower ho5 hs4⟩
    clear ho5 hb5 HCL
    go_wp2
    refine bodyPost_ret (results_tmp2 rfl _ _ _) rfl ?_
    exact HRS.out
 next =>
  have hsz2 := hq2.size
  have hBw := HBD.out _ hq2
  have hr := (OwnIntss.lower ho2 (lo' := lo) (by simp; omega)).at
  obtain ⟨mb, hmb⟩ : ∃ mb, mb = wA.heap.size := ⟨_, rfl⟩
  have hm : ValMap w2 mb [] := by rw [hmb]; exact ((ValMap.made wA).below ((Below.refl _ _).drew)).below hb2
  obtain ⟨h1, h2, h3⟩ := tel_made hm (HL.out.below hBw) (HE.out.below hBw) hr
  obtain ⟨wR, hwR⟩ : ∃ wR, wR = w2.alloc (.cells #[.int .i64 t.states, .int .i64 t.initial, lv, ev, .slice ra vs.length rc, .map (some mb)] 83) := ⟨_, rfl⟩
  obtain ⟨xb, hxb⟩ : ∃ xb, xb = w2.heap.size := ⟨_, rfl⟩
  rw [← hwR] at h1 h2 h3
  rw [← hxb] at h2
  have HBR : Hid (Below w.heap.size w wR) := hBw.trans (h1.mono hBw.size)
  have HMB : Hid (w.heap.size ≤ mb) := by unfold Hid; omega
  rw [← hxb, ← hmb, ← hwR]
  have HTL := Lib.hid h2
  have HMP := Lib.hid h3
  have HDP := Lib.hid (depth_any xb mb lo S t lv ev _ A B wR HV.out HSS.out hA hB h2)
  clear hm h1 h2 h3 hr hb2 ho2 hlv hBw hq2 k0 k1 k2 k3 hwR hxb hmb
  go_wp2_with fail
  refine Calls.mono HDP.out ?_
  rintro e w3 ⟨rfl, hb3⟩
  have HAB : Hid ((0 ≤ (A : Int) ∧ (A : Int) < t.states) ∧ (0 ≤ (B : Int) ∧ (B : Int) < t.states)) := by unfold Hid; have := HSS.out; omega
  have HB3 : Hid (Below w.heap.size w w3) := HBR.out.trans (hb3.mono HBR.out.size)
  obtain ⟨n, hn⟩ : ∃ n, n = sepR t A B := ⟨_, rfl⟩
  by_cases hs : n = 0
  ·have hdI : depthI t A B = -1 := by unfold depthI; rw [← hn, if_pos hs]
   have HRS : Hid (RetDf t A B w (.returned (.tuple #[.slice none 0 0, .int .i64 3])) w3) := df_none HB3.out (.inr (.inr ⟨HV.out, HAB.out, .inl ⟨by rw [← hn]; exact hs, rfl, rfl⟩⟩))
   rw [hdI]
   clear hb3 hn hs hdI
   go_wp2
   refine bodyPost_ret (results_tmp2 rfl _ _ _) rfl ?_
   exact HRS.out
  ·have hdI : depthI t A B = (n : Int) := by unfold depthI; rw [← hn, if_neg hs]
   have hn0 : 0 < n := by omega
   have HN := Lib.hid hn
   have HTE := Lib.hid (tell_any xb mb lo S t lv ev _ HV.out HSS.out (sepR t A B) A B [] w3 hA hB (by rw [← hn]; exact hn0) (Nat.le_refl _) (HTL.out.below hb3) (HMP.out.below hb3))
   rw [hdI]
   have hni : ¬ ((n : Int) < 0) := by omega
   clear hb3 hn hs hdI
   go_wp2_with fail
   refine Calls.mono HTE.out ?_
   rintro e w4 ⟨v, ks2, rfl, hk, hg, -, -⟩
   have HB4 : Hid (Below w.heap.size w w4) := HB3.out.grown hg HB3.out.size (fun b e => by cases e; exact HMB.out)
   have hs4 : w.heap.size ≤ w4.heap.size := HB4.out.size
   obtain ⟨F, hF⟩ : ∃ F, F = tellT t A B := ⟨_, rfl⟩
   rw [← hF] at hk
   have hF2 : F.length ≤ 200 := by rw [hF]; exact tellT_short t _ _
   obtain ⟨fa, fc, rfl, hnil⟩ := hk.nil
   obtain ⟨FL, hFL⟩ : ∃ FL, FL = F.length := ⟨_, rfl⟩
   have HK := Lib.hid hk
   have HFE := Lib.hid hF
   have HFL := Lib.hid hFL
   have hEQ := eqNilN fa FL fc w4
   rw [← hFL] at hF2 HK ⊢
   rw [hnil] at hEQ
   by_cases hf : F = []
   ·have hd : decide (F = []) = true := decide_eq_true hf
    rw [hd] at hEQ
    have HRS : Hid (RetDf t A B w (.returned (.tuple #[.slice none 0 0, .int .i64 5])) w4) := df_none HB4.out (.inr (.inr ⟨HV.out, HAB.out, .inr (.inl ⟨by rw [← HN.out]; exact hn0, by rw [← HFE.out]; exact hf, rfl, rfl⟩)⟩))
    clear hk hg hF hf hFL hnil hd HTE
    go_wp2
    refine bodyPost_ret (results_tmp2 rfl _ _ _) rfl ?_
    exact HRS.out
   ·have hd : decide (F = []) = false := decide_eq_false hf
    rw [hd] at hEQ
    have hfo : FormO 0 w4 (.slice fa FL fc) F := by
     rcases HK.out with ⟨h, -⟩ | ⟨-, h⟩
     ·exact absurd h hf
     ·exact h
    have HCL := Lib.hid (CloneN_any _ F w4 hfo hf (by rw [← HFL.out]; exact hF2))
    have HDF : Hid (DfIs t A B F 0) := .inr (.inr ⟨HV.out, HAB.out, .inr (.inr ⟨by rw [← HN.out]; exact hn0, by rw [← HFE.out]; exact hf, HFE.out, rfl⟩)⟩)
    clear hk hg hF hf hFL hnil hd hfo HTE
    go_wp2_with fail
    refine Calls.mono HCL.out ?_
    rintro e w5 ⟨v5, rfl, ho5, hb5⟩
    have HRS : Hid (RetDf t A B w (.returned (.tuple #[v5, .int .i64 0])) w5) := ⟨HB4.out.trans (hb5.mono hs4), F, 0, v5, rfl, HDF.out, own_lower ho5 hs4⟩
    clear ho5 hb5 HCL
    go_wp2
    refine bodyPost_ret (results_tmp2 rfl _ _ _) rfl ?_
    exact HRS.out
 next =>
  have hsz2 := hq2.size
  have hBw := HBD.out _ hq2
  have hr := (OwnIntss.lower ho2 (lo' := lo) (by simp; omega)).at
  obtain ⟨mb, hmb⟩ : ∃ mb, mb = wA.heap.size := ⟨_, rfl⟩
  have hm : ValMap w2 mb [] := by rw [hmb]; exact ((ValMap.made wA).below ((Below.refl _ _).drew)).below hb2
  obtain ⟨h1, h2, h3⟩ := tel_made hm (HL.out.below hBw) (HE.out.below hBw) hr
  obtain ⟨wR, hwR⟩ : ∃ wR, wR = w2.alloc (.cells #[.int .i64 t.states, .int .i64 t.initial, lv, ev, .slice ra vs.length rc, .map (some mb)] 83) := ⟨_, rfl⟩
  obtain ⟨xb, hxb⟩ : ∃ xb, xb = w2.heap.size := ⟨_, rfl⟩
  rw [← hwR] at h1 h2 h3
  rw [← hxb] at h2
  have HBR : Hid (Below w.heap.size w wR) := hBw.trans (h1.mono hBw.size)
  have HMB : Hid (w.heap.size ≤ mb) := by unfold Hid; omega
  rw [← hxb, ← hmb, ← hwR]
  have HTL := Lib.hid h2
  have HMP := Lib.hid h3
  have HDP := Lib.hid (depth_any xb mb lo S t lv ev _ A B wR HV.out HSS.out hA hB h2)
  clear hm h1 h2 h3 hr hb2 ho2 hlv hBw hq2 k0 k1 k2 k3 hwR hxb hmb
  go_wp2_with fail
  refine Calls.mono HDP.out ?_
  rintro e w3 ⟨rfl, hb3⟩
  have HAB : Hid ((0 ≤ (A : Int) ∧ (A : Int) < t.states) ∧ (0 ≤ (B : Int) ∧ (B : Int) < t.states)) := by unfold Hid; have := HSS.out; omega
  have HB3 : Hid (Below w.heap.size w w3) := HBR.out.trans (hb3.mono HBR.out.size)
  obtain ⟨n, hn⟩ : ∃ n, n = sepR t A B := ⟨_, rfl⟩
  by_cases hs : n = 0
  ·have hdI : depthI t A B = -1 := by unfold depthI; rw [← hn, if_pos hs]
   have HRS : Hid (RetDf t A B w (.returned (.tuple #[.slice none 0 0, .int .i64 3])) w3) := df_none HB3.out (.inr (.inr ⟨HV.out, HAB.out, .inl ⟨by rw [← hn]; exact hs, rfl, rfl⟩⟩))
   rw [hdI]
   clear hb3 hn hs hdI
   go_wp2
   refine bodyPost_ret (results_tmp2 rfl _ _ _) rfl ?_
   exact HRS.out
  ·have hdI : depthI t A B = (n : Int) := by unfold depthI; rw [← hn, if_neg hs]
   have hn0 : 0 < n := by omega
   have HN := Lib.hid hn
   have HTE := Lib.hid (tell_any xb mb lo S t lv ev _ HV.out HSS.out (sepR t A B) A B [] w3 hA hB (by rw [← hn]; exact hn0) (Nat.le_refl _) (HTL.out.below hb3) (HMP.out.below hb3))
   rw [hdI]
   have hni : ¬ ((n : Int) < 0) := by omega
   clear hb3 hn hs hdI
   go_wp2_with fail
   refine Calls.mono HTE.out ?_
   rintro e w4 ⟨v, ks2, rfl, hk, hg, -, -⟩
   have HB4 : Hid (Below w.heap.size w w4) := HB3.out.grown hg HB3.out.size (fun b e => by cases e; exact HMB.out)
   have hs4 : w.heap.size ≤ w4.heap.size := HB4.out.size
   obtain ⟨F, hF⟩ : ∃ F, F = tellT t A B := ⟨_, rfl⟩
   rw [← hF] at hk
   have hF2 : F.length ≤ 200 := by rw [hF]; exact tellT_short t _ _
   obtain ⟨fa, fc, rfl, hnil⟩ := hk.nil
   obtain ⟨FL, hFL⟩ : ∃ FL, FL = F.length := ⟨_, rfl⟩
   have HK := Lib.hid hk
   have HFE := Lib.hid hF
   have HFL := Lib.hid hFL
   have hEQ := eqNilN fa FL fc w4
   rw [← hFL] at hF2 HK ⊢
   rw [hnil] at hEQ
   by_cases hf : F = []
   ·have hd : decide (F = []) = true := decide_eq_true hf
    rw [hd] at hEQ
    have HRS : Hid (RetDf t A B w (.returned (.tuple #[.slice none 0 0, .int .i64 5])) w4) := df_none HB4.out (.inr (.inr ⟨HV.out, HAB.out, .inr (.inl ⟨by rw [← HN.out]; exact hn0, by rw [← HFE.out]; exact hf, rfl, rfl⟩)⟩))
    clear hk hg hF hf hFL hnil hd HTE
    go_wp2
    refine bodyPost_ret (results_tmp2 rfl _ _ _) rfl ?_
    exact HRS.out
   ·have hd : decide (F = []) = false := decide_eq_false hf
    rw [hd] at hEQ
    have hfo : FormO 0 w4 (.slice fa FL fc) F := by
     rcases HK.out with ⟨h, -⟩ | ⟨-, h⟩
     ·exact absurd h hf
     ·exact h
    have HCL := Lib.hid (CloneN_any _ F w4 hfo hf (by rw [← HFL.out]; exact hF2))
    have HDF : Hid (DfIs t A B F 0) := .inr (.inr ⟨HV.out, HAB.out, .inr (.inr ⟨by rw [← HN.out]; exact hn0, by rw [← HFE.out]; exact hf, HFE.out, rfl⟩)⟩)
    clear hk hg hF hf hFL hnil hd hfo HTE
    go_wp2_with fail
    refine Calls.mono HCL.out ?_
    rintro e w5 ⟨v5, rfl, ho5, hb5⟩
    have HRS : Hid (RetDf t A B w (.returned (.tuple #[v5, .int .i64 0])) w5) := ⟨HB4.out.trans (hb5.mono hs4), F, 0, v5, rfl, HDF.out, own_lower ho5 hs4⟩
    clear ho5 hb5 HCL
    go_wp2
    refine bodyPost_ret (results_tmp2 rfl _ _ _) rfl ?_
    exact HRS.out

end Go.Proofs.YtjoacldbgnphkaaGreatDoor

namespace Go.Proofs.YtjoacldbgnphkaaGreatDoor
open Go Go.RowKit


theorem sep_first {t : Lts} {a b : Int} {k : Nat} (hk : k ≤ lastR t) (h : (lev t k).getD a.toNat 0 ≠ (lev t k).getD b.toNat 0) (hf : ∀ j, j < k → (lev t j).getD a.toNat 0 = (lev t j).getD b.toNat 0) : sepR t a b = k := by
 unfold sepR
 have : ((List.range (lastR t + 1)).find? fun k => (lev t k).getD a.toNat 0 != (lev t k).getD b.toNat 0) = some k := by
  rw [List.find?_range_eq_some]
  exact ⟨by simpa using h, List.mem_range.2 (by omega), fun j hj => by simpa using hf j hj⟩
 rw [this]
 rfl
theorem sep_never {t : Lts} {a b : Int} (hf : ∀ j, j < lastR t + 1 → (lev t j).getD a.toNat 0 = (lev t j).getD b.toNat 0) : sepR t a b = 0 := by
 unfold sepR
 have : ((List.range (lastR t + 1)).find? fun k => (lev t k).getD a.toNat 0 != (lev t k).getD b.toNat 0) = none := by
  rw [List.find?_eq_none]
  intro k hk
  simpa using hf k (List.mem_range.1 hk)
 rw [this]
 rfl
/-- A row of rows, and a place in it. -/
theorem IntssAt.place {lo : Nat} {w : World} {v : Value} {xss : List (List Int)} (h : IntssAt lo w v xss) {k : Nat} (hk : k < xss.length) :
  ∃ b o c pa pc, v = .slice (some ⟨b, o, none⟩) xss.length c ∧ b < w.heap.size ∧ w.cell? ⟨b, o + k, none⟩ = some (.slice pa xss[k].length pc) ∧ RowK 1 encI lo w pa xss[k] ∧ xss[k].length ≤ pc ∧ lo ≤ b := by
 obtain ⟨vs, hl, ⟨a, c, rfl, hn, hc, hr⟩, hrow⟩ := h
 obtain ⟨b, o, rfl, hlo, hb, hcell⟩ := hr.one (i := k) (by omega)
 obtain ⟨pa, pc, he, h1, h2, h3⟩ := hrow k (by omega) hk
 refine ⟨b, o, c, pa, pc, by rw [hl], hb, ?_, h3, h1, hlo⟩
 rw [hcell]
 simp [encV, he]

set_option maxRecDepth 100000 in
set_option maxHeartbeats 4000000 in
theorem apart_any (lo S : Nat) (t : Lts) (v : Value) (a b : Int) (w : World) (hv : Valid t) (hS : (S : Int) = t.states) (ha : 0 ≤ a ∧ a < t.states) (hb : 0 ≤ b ∧ b < t.states) (hvs : IntssAt lo w v (levs t)) :
  Calls Tryz.prog 21 #[v, .int .i64 a, .int .i64 b] w fun e w' => e = .returned (.int .i64 (sepR t a b)) ∧ Below w.heap.size w w' := by
 have HV := Lib.hid hv
 have HAT := Lib.hid hvs
 have hlast := (last_ok hv).1
 have hs1 := hv.st1
 have hSN : t.states.toNat = S := by omega
 obtain ⟨la, lc, hve⟩ : ∃ la lc, v = .slice la (lastR t + 1) lc := by
  obtain ⟨vs, hl, ⟨a, c, rfl, -⟩, -⟩ := hvs
  rw [levs_len] at hl
  exact ⟨a, c, by rw [hl]⟩
 subst hve
 obtain ⟨x, hx⟩ : ∃ x : Nat, (x : Int) = a := ⟨a.toNat, by omega⟩
 obtain ⟨y, hy⟩ : ∃ y : Nat, (y : Int) = b := ⟨b.toNat, by omega⟩
 subst hx hy
 obtain ⟨L, hL⟩ : ∃ L, L = lastR t := ⟨_, rfl⟩
 rw [← hL] at hlast ⊢
 have HLL := Lib.hid hL
 have HSN := Lib.hid hSN
 have hxS : x < S := by omega
 have hyS : y < S := by omega
 have hL40 : L < 40 := by omega
 clear hv hvs hL ha hb hS hs1 hlast hSN
 go_enter Tryz.func21, Tryz.ntmps21
 go_wp2
 go_loopw [7] (fun v7 wr => ∃ k : Nat, k ≤ L + 1 ∧ v7 = .int .i64 k ∧ Below w.heap.size w wr ∧ ∀ j, j < k → (lev t j).getD x 0 = (lev t j).getD y 0) (fun v7 _ => L + 1 - (intOf v7).toNat)
 case atStart => exact ⟨0, Nat.zero_le _, rfl, Below.refl _ _, fun j hj => absurd hj (Nat.not_lt_zero _)⟩
 case round =>
  obtain ⟨k, hk, rfl, hbl, hf⟩ := hrel
  have HB := Lib.hid hbl
  have HF := Lib.hid hf
  have hsz := hbl.size
  clear hbl hf
  by_cases hlt : k < L + 1
  ·have hkl : k < (levs t).length := by rw [levs_len, ← HLL.out]; exact hlt
   have hlk : (levs t)[k] = lev t k := by
    have h := levs_get (t := t) (k := k) (by rw [← HLL.out]; exact hlt)
    rw [List.getElem?_eq_getElem hkl] at h
    exact Option.some.inj h
   obtain ⟨bo, oo, co, pa, pc, hve, hbo, c0, hr, hlp, -⟩ := (HAT.out.below HB.out).place hkl
   simp only [Value.slice.injEq] at hve
   obtain ⟨rfl, -, -⟩ := hve
   rw [hlk] at c0 hr hlp
   have hip := lev_in HV.out k
   rw [lev_len, HSN.out] at c0 hlp
   have e1 : ((x : Nat) : Int).toNat = x := by omega
   have e2 : ((y : Nat) : Int).toNat = y := by omega
   have hSt : (S : Int) = t.states := by have := HSN.out; have := HV.out.st0; omega
   obtain ⟨bp, op, rfl, hbp, c1⟩ := part_cell hip hr (k := (x : Int)) (by omega) (by omega)
   obtain ⟨bp2, op2, hbp3, hbp2, c2⟩ := part_cell hip hr (k := (y : Int)) (by omega) (by omega)
   simp only [Option.some.injEq, Addr.mk.injEq, and_true] at hbp3
   obtain ⟨rfl, rfl⟩ := hbp3
   rw [e1] at c1
   rw [e2] at c2
   obtain ⟨px, hpx⟩ : ∃ px, px = (lev t k).getD x 0 := ⟨_, rfl⟩
   obtain ⟨py, hpy⟩ : ∃ py, py = (lev t k).getD y 0 := ⟨_, rfl⟩
   rw [← hpx] at c1
   rw [← hpy] at c2
   have HPX := Lib.hid hpx
   have HPY := Lib.hid hpy
   replace c0 := later_cell hbo c0
   replace c1 := later_cell hbp c1
   replace c2 := later_cell hbp2 c2
   clear hip hr hlk hkl e1 e2 hSt hpx hpy
   cases g : (px != py)
   ·have HF2 : Hid (∀ j, j < k + 1 → (lev t j).getD x 0 = (lev t j).getD y 0) := fun j hj => by
     rcases Nat.lt_succ_iff_lt_or_eq.1 hj with h | h
     ·exact HF.out j h
     ·rw [h, ← HPX.out, ← HPY.out]
      simpa using g
    go_wp2
    refine wp_region_later (by kernel_rfl) (by kernel_rfl) ?_
    repeat (go_big_quiet_step ((fail)))
    refine wpQuiet_nil ?_
    intro _ hw9
    obtain ⟨nl, hw8⟩ := hw9
    subst hw8
    go_wp2
    go_roundw
    case rel => exact ⟨k + 1, by omega, by go_num, HB.out.trans (nl.h.mono hsz), HF2.out⟩
    case measure => simp [intOf]; omega
   ·have HR : Hid (sepR t (x : Int) (y : Int) = k) := sep_first (by rw [← HLL.out]; omega) (by
     show (lev t k).getD x 0 ≠ (lev t k).getD y 0
     rw [← HPX.out, ← HPY.out]
     simpa using g) (fun j hj => HF.out j hj)
    go_wp2
    refine wp_region_later (by kernel_rfl) (by kernel_rfl) ?_
    repeat (go_big_quiet_step ((fail)))
    refine wpQuiet_nil ?_
    intro _ hw9
    obtain ⟨nl, hw8⟩ := hw9
    subst hw8
    go_wp2
    go_ret
    exact ⟨by rw [HR.out]; rfl, HB.out.trans (nl.h.mono hsz)⟩
  ·have HR : Hid (sepR t (x : Int) (y : Int) = 0) := sep_never (fun j hj => HF.out j (by rw [← HLL.out] at hj; omega))
   go_wp2
   go_ret
   exact ⟨by rw [HR.out]; rfl, HB.out⟩

theorem two_any (bt lo : Nat) (t : Lts) (a b : Int) (w : World) (hv : Valid t) (hp : LtsPtr lo w bt t) :
  Calls Tryz.prog 19 #[.pointer (some ⟨bt, 0, none⟩), .int .i64 a, .int .i64 b] w fun e w' => e = .returned (.bool (inB a 0 (t.states - 1) && inB b 0 (t.states - 1))) ∧ w = w' := by
 obtain ⟨lv, ev, hpl, q0, -⟩ := hp
 have hs0 := hv.st0
 have hs1 := hv.st1
 obtain ⟨S, hS⟩ : ∃ S : Nat, t.states = S := ⟨t.states.toNat, by omega⟩
 rw [hS] at q0 ⊢
 have hS0 : 1 ≤ S := by omega
 have hS1 : S ≤ 40 := by omega
 have H1 := Lib.hid (l00In_any a 0 ((S : Int) - 1) w)
 have H2 := Lib.hid (l00In_any b 0 ((S : Int) - 1) w)
 clear hv hS hs0 hs1
 cases g1 : inB a 0 ((S : Int) - 1)
 ·rw [g1] at H1
  clear g1
  go_enter Tryz.func19, Tryz.ntmps19
  go_wp2_with fail
  refine Calls.mono H1.out ?_
  rintro e w1 ⟨rfl, rfl⟩
  go_wp2
  go_ret
  exact ⟨rfl, rfl⟩
 ·rw [g1] at H1
  clear g1
  go_enter Tryz.func19, Tryz.ntmps19
  go_wp2_with fail
  refine Calls.mono H1.out ?_
  rintro e w1 ⟨rfl, rfl⟩
  go_wp2_with fail
  refine Calls.mono H2.out ?_
  rintro e w2 ⟨rfl, rfl⟩
  go_wp2
  go_ret
  exact ⟨rfl, rfl⟩

end Go.Proofs.YtjoacldbgnphkaaGreatDoor

namespace Go.Proofs.YtjoacldbgnphkaaGreatDoor
open Go Go.RowKit


set_option maxRecDepth 100000 in
set_option maxHeartbeats 4000000 in
theorem lone_any (bt lo lo2 eb S : Nat) (t : Lts) (pv : Value) (p : List Int) (ed : Edge) (b : Int) (w : World) (hv : Valid t) (hS : (S : Int) = t.states) (hip : InP t p) (hp : LtsPtr lo w bt t) (hpv : SliceK 1 encI lo2 w pv p) (hok : EdgeOk t ed)
  (hel : eb < w.heap.size) (z1 : w.cell? ⟨eb, 1, none⟩ = some (.int .i64 ed.lab)) (z2 : w.cell? ⟨eb, 2, none⟩ = some (.int .i64 ed.dst)) :
  Calls Tryz.prog 59 #[.pointer (some ⟨bt, 0, none⟩), pv, .pointer (some ⟨eb, 0, none⟩), .int .i64 b] w fun e w' => e = .returned (.bool (!metB t p ed b)) ∧ Below w.heap.size w w' := by
 have HV := Lib.hid hv
 have HIP := Lib.hid hip
 have HOK := Lib.hid hok
 obtain ⟨lv, ev, hpl, -, -, -, q3, -, hes⟩ := hp
 obtain ⟨ae, ce, rfl, hen, hec, herow⟩ := hes
 have HER := Lib.hid herow
 obtain ⟨pa, pc, rfl, hpn, hpc, hprow⟩ := hpv
 have HPR := Lib.hid hprow
 have hpS : p.length = S := by have := hip.1; omega
 have hmost := hv.most
 have hs1 := hv.st1
 obtain ⟨E, hE⟩ : ∃ E, E = t.edges.length := ⟨_, rfl⟩
 rw [← hE] at hen hmost q3
 rw [hpS] at hpn ⊢
 have HEE := Lib.hid hE
 have HSS := Lib.hid hS
 have HQ3 := Lib.hid q3
 have HZ1 := Lib.hid z1
 have HZ2 := Lib.hid z2
 have hS40 : S ≤ 40 := by omega
 clear hv hip herow hprow hE hS hpS hs1 hok z1 z2
 go_enter Tryz.func59, Tryz.ntmps59
 go_wp2
 go_loopw [9] (fun i wr => ∃ k : Nat, k ≤ E ∧ i = .int .i64 k ∧ Below w.heap.size w wr ∧ metK t p ed b k = false) (fun i _ => E - (intOf i).toNat)
 case atStart => exact ⟨0, Nat.zero_le _, rfl, Below.refl _ _, metK_zero _ _ _ _⟩
 case round =>
  obtain ⟨k, hk, rfl, hbl, gm⟩ := hrel
  have HB2 := Lib.hid hbl
  have hsz2 := hbl.size
  have q3 := keeps hbl hpl HQ3.out
  have z1 := keeps hbl hel HZ1.out
  have z2 := keeps hbl hel HZ2.out
  have HGM := Lib.hid gm
  clear hbl gm
  by_cases hlk : k < E
  ·have hkE : k < t.edges.length := by rw [← HEE.out]; exact hlk
   obtain ⟨be2, oe2, rfl, -, hbe2, f1, f2, f3⟩ := (HER.out.below HB2.out).edge hkE
   have HMS := Lib.hid (metK_succ (p := p) (e := ed) (b := b) hkE)
   have hok2 := HV.out.edge k hkE
   have HMT : Hid (metK t p ed b (k + 1) = true → metB t p ed b = true) := metK_met
   obtain ⟨kd, hkd⟩ : ∃ kd, kd = t.edges[k] := ⟨_, rfl⟩
   rw [← hkd] at f1 f2 f3 HMS hok2
   have hok := HOK.out
   obtain ⟨x, hx⟩ : ∃ x : Nat, (x : Int) = ed.dst := ⟨ed.dst.toNat, by have := hok.d0; omega⟩
   obtain ⟨y, hy⟩ : ∃ y : Nat, (y : Int) = kd.dst := ⟨kd.dst.toNat, by have := hok2.d0; omega⟩
   have hxS : x < S := by have := hok.d1; have := HSS.out; omega
   have hyS : y < S := by have := hok2.d1; have := HSS.out; omega
   obtain ⟨bp, op, rfl, hbp, c1⟩ := part_cell HIP.out (HPR.out.below HB2.out) hok.d0 hok.d1
   obtain ⟨bp2, op2, hbp3, hbp2, c2⟩ := part_cell HIP.out (HPR.out.below HB2.out) hok2.d0 hok2.d1
   simp only [Option.some.injEq, Addr.mk.injEq, and_true] at hbp3
   obtain ⟨rfl, rfl⟩ := hbp3
   have ex : ed.dst.toNat = x := by omega
   have ey : kd.dst.toNat = y := by omega
   rw [ex] at c1 HMS
   rw [ey] at c2 HMS
   rw [← hx] at z2
   rw [← hy] at f3
   obtain ⟨px, hpx⟩ : ∃ px, px = p.getD x 0 := ⟨_, rfl⟩
   obtain ⟨py, hpy⟩ : ∃ py, py = p.getD y 0 := ⟨_, rfl⟩
   rw [← hpx] at c1 HMS
   rw [← hpy] at c2 HMS
   obtain ⟨ks, hks⟩ : ∃ ks, ks = kd.src := ⟨_, rfl⟩
   obtain ⟨kl, hkl⟩ : ∃ kl, kl = kd.lab := ⟨_, rfl⟩
   obtain ⟨el, hel2⟩ : ∃ el, el = ed.lab := ⟨_, rfl⟩
   rw [← hks] at f1 HMS
   rw [← hkl] at f2 HMS
   rw [← hel2] at z1 HMS
   have hplw : bt < wr.heap.size := Nat.lt_of_lt_of_le hpl hsz2
   have helw : eb < wr.heap.size := Nat.lt_of_lt_of_le hel hsz2
   have l3 := later_cell hplw q3
   replace z1 := later_cell helw z1
   replace z2 := later_cell helw z2
   replace f1 := later_cell hbe2 f1
   replace f2 := later_cell hbe2 f2
   replace f3 := later_cell hbe2 f3
   replace c1 := later_cell hbp c1
   replace c2 := later_cell hbp2 c2
   clear hok hok2 hx hy ex ey hpx hpy hks hkl hel2 hkd
   have HMV : Hid (metK t p ed b (k + 1) = (ks == b && (kl == el && py == px))) := by unfold Hid; rw [HMS.out, HGM.out]; rfl
   clear HMS
   cases h1 : (ks == b)
   ·rw [h1] at HMV
    go_wp2
    refine wp_region_later (by kernel_rfl) (by kernel_rfl) ?_
    repeat (go_big_quiet_step ((fail)))
    refine wpQuiet_nil ?_
    intro _ hw9
    obtain ⟨nl, hw8⟩ := hw9
    subst hw8
    go_wp2
    go_roundw
    case rel => exact ⟨k + 1, by omega, by go_num, HB2.out.trans (nl.h.mono hsz2), by rw [HMV.out]; rfl⟩
    case measure => simp [intOf]; omega
   ·cases h2 : (kl == el)
    ·rw [h1, h2] at HMV
     go_wp2
     refine wp_region_later (by kernel_rfl) (by kernel_rfl) ?_
     repeat (go_big_quiet_step ((fail)))
     refine wpQuiet_nil ?_
     intro _ hw9
     obtain ⟨nl, hw8⟩ := hw9
     subst hw8
     go_wp2
     go_roundw
     case rel => exact ⟨k + 1, by omega, by go_num, HB2.out.trans (nl.h.mono hsz2), by rw [HMV.out]; rfl⟩
     case measure => simp [intOf]; omega
    ·cases h3 : (py == px)
     ·rw [h1, h2, h3] at HMV
      go_wp2
      refine wp_region_later (by kernel_rfl) (by kernel_rfl) ?_
      repeat (go_big_quiet_step ((fail)))
      refine wpQuiet_nil ?_
      intro _ hw9
      obtain ⟨nl, hw8⟩ := hw9
      subst hw8
      go_wp2
      go_roundw
      case rel => exact ⟨k + 1, by omega, by go_num, HB2.out.trans (nl.h.mono hsz2), by rw [HMV.out]; rfl⟩
      case measure => simp [intOf]; omega
     ·rw [h1, h2, h3] at HMV
      have HR : Hid (metB t p ed b = true) := HMT.out (by rw [HMV.out]; rfl)
      go_wp2
      refine wp_region_later (by kernel_rfl) (by kernel_rfl) ?_
      repeat (go_big_quiet_step ((fail)))
      refine wpQuiet_nil ?_
      intro _ hw9
      obtain ⟨nl, hw8⟩ := hw9
      subst hw8
      go_wp2
      go_ret
      exact ⟨by rw [HR.out]; rfl, HB2.out.trans (nl.h.mono hsz2)⟩
  ·have HR : Hid (metB t p ed b = false) := by
    have h1 := HGM.out
    have h2 : k = t.edges.length := by rw [← HEE.out]; omega
    rw [h2, metK_all] at h1
    exact h1
   go_wp2
   go_ret
   exact ⟨by rw [HR.out]; rfl, HB2.out⟩

end Go.Proofs.YtjoacldbgnphkaaGreatDoor
