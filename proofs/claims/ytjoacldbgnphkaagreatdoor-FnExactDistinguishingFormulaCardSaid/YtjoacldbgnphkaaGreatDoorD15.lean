/-
  The program's single and rounds.
  What the implementation's functions on lists of values and on labels compute.
  What the implementation's readNumbers computes.
  What the implementation's joined computes.
  What the implementation's labelOf computes.
  What the implementation's readLabel and IsLabel compute.
  Plain laws: the texts that strconv reads and that are their numbers' decimal forms.
-/
import Derived.Test.YtjoacldbgnphkaaGreatDoorD14
import Derived.Test.YtjoacldbgnphkaaGreatDoorD6
import Derived.Lib.SplitLaws
import Derived.OwnWalk
import Derived.Lib.ParseIntBTie
import Derived.Lib.AtoiAllCases
import Derived.Lib.AtoiTie
namespace Go.Proofs.YtjoacldbgnphkaaGreatDoor
open Go Go.RowKit


set_option maxRecDepth 100000 in
set_option maxHeartbeats 1000000 in
theorem single_any (S : Nat) (t : Lts) (w : World) (hS : t.states.toNat = S) (hS40 : S ≤ 40) : Calls Tryz.prog 66 #[.int .i64 S] w (MadeNums (lev t 0) w) := by
 obtain ⟨i1, hi1, hz10, hz11, hz12⟩ := info_parts info_int64N
 go_enter Tryz.func66, Tryz.ntmps66
 go_wp2_with (at_make; refine wpList_make_full _ rfl _ _ 69 rfl w.heap.size 2 i1 _ 1 Tryz.underlying69 hi1 hz10 hz11 .i64 .i64 _ _ S rfl rfl rfl rfl ?_ ?_ ?_ ?_)
 ·rw [hz12]; omega
 ·simp [maxLen]; omega
 ·exact Nat.le_refl _
 intro w1 ho hg
 rw [toList_madeCells_one] at ho
 have HR : Hid (MadeNums (lev t 0) w (.returned (.slice (some ⟨w.heap.size, 0, none⟩) S S)) w1) := by
  refine ⟨_, rfl, (Below.refl _ _).grown hg (Nat.le_refl _) (fun _ h => by cases h), ?_⟩
  rw [lev_zero, hS, List.length_replicate, List.map_replicate]
  simpa using ho
 clear ho hg
 go_wp2
 go_ret
 exact HR.out

set_option maxRecDepth 100000 in
set_option maxHeartbeats 4000000 in
theorem rounds_any (lo S : Nat) (t : Lts) (lv ev : Value) (w : World) (hv : Valid t) (hS : (S : Int) = t.states) (he : SliceK 3 encE lo w ev t.edges) :
  Calls Tryz.prog 46 #[.int .i64 S, .func (.func 47) #[.agg #[.int .i64 t.states, .int .i64 t.initial, lv, ev]] #[]] w (MadeIntss (levs t) w) := by
 have HV := Lib.hid hv
 have hs0 := hv.st0
 have hs1 := hv.st1
 have hS40 : S ≤ 40 := by omega
 have hS1 : 1 ≤ S := by omega
 have hSN : t.states.toNat = S := by omega
 have HSN := Lib.hid hSN
 obtain ⟨hlast, hst, hch⟩ := last_ok hv
 rw [hSN] at hlast
 have HST := Lib.hid hst
 have HCH := Lib.hid hch
 have HNX : Hid (∀ (k : Nat) (lo2 : Nat) (pv : Value) (w' : World), Below w.heap.size w w' → SliceK 1 encI lo2 w' pv (lev t k) → Calls Tryz.prog 47 #[.agg #[.int .i64 t.states, .int .i64 t.initial, lv, ev], pv] w' (MadeNums (lev t (k + 1)) w')) := fun k lo2 pv w' hb hpv => by
  have h := refine_any lo lo2 S t (lev t k) lv ev pv w' hv hS (lev_in hv k) (he.below hb) hpv
  have e := lev_imp hv k
  rw [hSN] at e
  rw [e] at h
  exact h
 have HSG := Lib.hid (single_any S t w hSN hS40)
 obtain ⟨i2, hi2, hz20, hz21, hz22⟩ := info_parts info_sliceL
 clear hv hS hs0 hs1 hst hch he
 go_enter Tryz.func46, Tryz.ntmps46
 go_wp2_with fail
 refine Calls.mono HSG.out ?_
 rintro e w1 ⟨v1, rfl, hb1, ho1⟩
 have hl0 : (lev t 0).length = S := by rw [lev_len]; exact hSN
 have hsz1 : w.heap.size ≤ w1.heap.size := hb1.size
 obtain ⟨ga, gc, rfl, -, -⟩ := owns_slice ho1
 obtain ⟨w2, hw2⟩ : ∃ w2, w2 = w1.alloc (.cells #[.slice ga (lev t 0).length gc] 69) := ⟨_, rfl⟩
 have hal : Below w1.heap.size w1 w2 := by rw [hw2]; exact (Below.refl _ _).alloc (Nat.le_refl _) _
 have HO : Hid (OwnIntss 69 2 w.heap.size w2 (.slice (some ⟨w1.heap.size, 0, none⟩) 1 1) [.slice ga (lev t 0).length gc] [lev t 0]) := by
  have h2 := World.ownsRow_lit (base := w.heap.size) (size := 1) w1 #[.slice ga (lev t 0).length gc] (e := 69) 1 hsz1 (by simp [maxLen]) rfl
  rw [← hw2] at h2
  exact owns_one h2 (owns_below ho1 hal)
 have HB2 : Hid (Below w.heap.size w w2) := hb1.trans (hal.mono hsz1)
 have HW2 := Lib.hid hw2
 clear ho1 hb1 hw2 hal HSG hl0
 go_wp2_with fail
 rw [← HW2.out]
 go_loopw [5] (fun v5 wr => ∃ (k : Nat) (g c : Nat) (vs : List Value), k ≤ lastR t ∧ v5 = .slice (some ⟨g, 0, none⟩) (k + 1) c ∧ Below w.heap.size w wr ∧ OwnIntss 69 2 w.heap.size wr (.slice (some ⟨g, 0, none⟩) (k + 1) c) vs ((List.range (k + 1)).map (lev t))) (fun v5 _ => S - (match v5 with | .slice _ n _ => n | _ => 0))
 case atStart => exact ⟨0, w1.heap.size, 1, _, Nat.zero_le _, rfl, HB2.out, HO.out⟩
 case round =>
  clear HO HB2 HW2
  obtain ⟨k, g, c, vs, hk, rfl, hbl, ho⟩ := hrel
  obtain ⟨wC, rfl⟩ : ∃ wC : World, wC = wr := ⟨_, rfl⟩
  have hvl : vs.length = k + 1 := by have := ho.1; simpa using this
  have hkl : k < vs.length := by omega
  have hrow0 := ho.2.2.1 k hkl (by simp)
  have hrow : wC.ownsRow w.heap.size 2 1 vs[k] (lev t k).length ((lev t k).map (Value.int .i64)) := by simpa using hrow0
  have hh := ho.2.1
  rw [hvl] at hh
  have z0 := hh.cellAt k (by omega)
  rw [List.getElem?_eq_getElem hkl] at z0
  obtain ⟨rv, hrv⟩ : ∃ rv, rv = vs[k] := ⟨_, rfl⟩
  rw [← hrv] at z0 hrow
  obtain ⟨pa, pc, rfl, -, -⟩ := owns_slice hrow
  have hlk : (lev t k).length = S := by rw [lev_len]; exact hSN
  have hsl : SliceK 1 encI w.heap.size wC (.slice pa (lev t k).length pc) (lev t k) := SliceK.of_owns (enc := encI) (e := 2) encI_len rfl (by rw [flat_encI]; exact hrow)
  have hk40 : k < 40 := by omega
  have HB := Lib.hid hbl
  have HO := Lib.hid ho
  have HSL := Lib.hid hsl
  have HN := Lib.hid (HNX.out k _ _ wC hbl hsl)
  have hszC := hbl.size
  have HVL := Lib.hid hvl
  have HLK := Lib.hid hlk
  clear hbl ho hsl hvl hkl hrow0 hrow hh hrv hlk
  go_wp2_with fail
  refine Calls.mono HN.out ?_
  rintro e wD ⟨qv, rfl, hb, hq⟩
  have hq1 : (lev t (k + 1)).length = S := by rw [lev_len]; exact hSN
  obtain ⟨qa, qc, rfl, -, -⟩ := owns_slice hq
  have HBD := Lib.hid hb
  have HQ := Lib.hid hq
  have hszD := hb.size
  have hsq : SliceK 1 encI wC.heap.size wD (.slice qa (lev t (k + 1)).length qc) (lev t (k + 1)) := SliceK.of_owns (enc := encI) (e := 2) encI_len rfl (by rw [flat_encI]; exact hq)
  have HSM := Lib.hid (EqualI_any w.heap.size wC.heap.size _ _ _ _ wD (HSL.out.below hb) hsq (fun e => by have := HLK.out; rw [e] at this; simp at this; omega) (fun e => by rw [e] at hq1; simp at hq1; omega))
  have HLQ := Lib.hid hq1
  clear hb hq hsq HN hq1
  go_wp2_with fail
  refine Calls.mono HSM.out ?_
  rintro e wE ⟨rfl, hb⟩
  have hbE : Below wC.heap.size wC wE := HBD.out.trans (hb.mono hszD)
  have HBE := Lib.hid hbE
  have HQE := Lib.hid (owns_below HQ.out hb)
  have HBW : Hid (Below w.heap.size w wE) := HB.out.trans (hbE.mono hszC)
  have hszE : wC.heap.size ≤ wE.heap.size := hbE.size
  clear hb hbE HSM HQ HBD
  by_cases hkl : k = lastR t
  ·have he : (lev t k == lev t (k + 1)) = true := by rw [beq_iff_eq, hkl]; exact HST.out
   have HKL := Lib.hid hkl
   have HOE := Lib.hid (HO.out.below HBE.out)
   clear hkl
   rw [he]
   go_wp2
   go_ret
   refine ⟨_, vs, rfl, HBW.out, ?_⟩
   have := HOE.out
   unfold levs
   rw [← HKL.out]
   exact this
  ·have he : (lev t k == lev t (k + 1)) = false := by
    rw [beq_eq_false_iff_ne]
    exact fun h => HCH.out k (by omega) h
   rw [he]
   have HOE := Lib.hid (HO.out.below HBE.out)
   have hor : wE.ownsRow w.heap.size 69 1 (.slice (some ⟨g, 0, none⟩) (k + 1) c) (k + 1) vs := by
    have := HOE.out.2.1
    rw [HVL.out] at this
    exact this
   have HOR := Lib.hid hor
   have hk1 : k + 1 ≤ lastR t := by omega
   clear hor hkl
   go_wp2_with (at_builtin; refine wpList_append_lies _ rfl _ _ 44 rfl w.heap.size 69 i2 (.slice none 0 0) 1 24 Tryz.underlying44 hi2 hz20 hz21 hz22 rfl (by decide) _ _ _ rfl (HOR.out.alloc _) ⟨wE.heap.size, 0, none⟩ 1 1 [.slice qa (lev t (k + 1)).length qc] rfl rfl ?c1 ?c2 ?c3 ?c4 ?c5 ?c6 _ rfl ?_)
   case c1 => exact World.news_of_block (cs := #[.slice qa (lev t (k + 1)).length qc]) (t := 69) (fr := (0, 0)) (heap_alloc_new _ _)
   case c2 => intro u hu; simp at hu; subst hu; rfl
   case c3 => omega
   case c4 => simp [maxLen]; omega
   case c5 => omega
   case c6 => simp; omega
   intro g3 cap3 w3 ho3 hg3 hat3 hlt3
   have hal : Below wE.heap.size wE (wE.alloc (.cells #[.slice qa (lev t (k + 1)).length qc] 69)) := (Below.refl _ _).alloc (Nat.le_refl _) _
   have HO3 : Hid (OwnIntss 69 2 w.heap.size w3 (.slice (some ⟨g3, 0, none⟩) (k + 1 + 1) cap3) (vs ++ [.slice qa (lev t (k + 1)).length qc]) ((List.range (k + 1 + 1)).map (lev t))) := by
    unfold Hid
    rw [levs_take]
    refine OwnIntss.push (B := wC.heap.size) (xs := lev t (k + 1)) (by decide) HO.out (Nat.le_refl _) (HBE.out.trans (hal.mono hszE)) (owns_below HQE.out hal) hszC hg3 ?_
    rw [HVL.out]
    exact ho3
   have HB3 : Hid (Below w.heap.size w w3) := (HBW.out.trans (hal.mono (by omega))).grown hg3 (by simp; omega) (fun b e => by cases e; exact (HOR.out.lt g rfl).1)
   clear ho3 hg3 hat3 hlt3 hal HOR HOE HO HQE
   go_wp2
   go_roundw
   case rel => exact ⟨k + 1, g3, cap3, _, hk1, rfl, HB3.out, HO3.out⟩
   case measure => simp; omega

end Go.Proofs.YtjoacldbgnphkaaGreatDoor

namespace Go.Proofs.YtjoacldbgnphkaaGreatDoor
open Go Go.RowKit

def isVal (n : Int) : Bool := decide (0 ≤ n) && decide (n ≤ 63)

theorem areValues1_any (n : Int) (w : World) : Calls Tryz.prog 150 #[.int .i64 n] w fun e w' => e = .returned (.bool (!isVal n)) ∧ w = w' := by
 go_enter Tryz.func150, Tryz.ntmps150
 go_wp2_with fail
 refine (isValue_any _ _).mono ?_
 rintro e w' ⟨rfl, rfl⟩
 have HF : Hid ((!decide (0 ≤ n) || !decide (n ≤ 63)) = !isVal n) := by unfold Hid isVal; rw [Bool.not_and]
 go_wp2_with fail
 go_ret
 exact ⟨ret_bool HF.out, rfl⟩

set_option maxHeartbeats 1000000 in
theorem IndexFunc_vals (lo : Nat) (v : Value) (xs : List Int) (w : World) (hv : SliceK 1 encI lo w v xs) :
  Calls Tryz.prog 65 #[v, .func (.func 150) #[] #[]] w fun e w' => ∃ r : Int, e = .returned (.int .i64 r) ∧ decide (0 ≤ r) = !xs.all isVal ∧ w = w' := by
 obtain ⟨a, c, rfl, hcn, hcc, hrow⟩ := hv
 go_enter Tryz.func65, Tryz.ntmps65
 go_wp2_with fail
 go_loop [8] (fun i => ∃ k : Nat, k ≤ xs.length ∧ i = .int .i64 k ∧ ∀ j (h : j < xs.length), j < k → isVal xs[j] = true) (fun i => xs.length - (intOf i).toNat)
 case atStart => exact ⟨0, Nat.zero_le _, rfl, fun _ _ h => by omega⟩
 case round =>
  obtain ⟨k, hk, rfl, ha⟩ := hrel
  have HA := Lib.hid ha
  clear ha
  by_cases hlt : k < xs.length
  ·obtain ⟨b1, o1, rfl, -, hbs, c1⟩ := hrow.one hlt
   simp only [encI, List.getElem?_cons_zero] at c1
   clear hrow
   obtain ⟨b, hb⟩ : ∃ b, isVal xs[k] = b := ⟨_, rfl⟩
   have HB := Lib.hid hb
   clear hb
   go_wp2_with fail
   refine (areValues1_any _ _).mono ?_
   rintro e w' ⟨rfl, rfl⟩
   rw [HB.out]
   cases b
   ·go_wp2_with fail
    go_ret
    refine ⟨_, rfl, ?_, rfl⟩
    have h1 : xs.all isVal = false := by
     rw [List.all_eq_false]
     exact ⟨xs[k], List.getElem_mem _, by rw [HB.out]; simp⟩
    rw [h1]; simp
   ·go_wp2_with fail
    go_round
    case rel => exact ⟨k + 1, by omega, by go_num, fun j h hj => by
     by_cases e : j = k
     ·subst e; exact HB.out
     ·exact HA.out j h (by omega)⟩
    case measure => simp [intOf]; omega
  ·clear hrow
   go_wp2_with fail
   go_ret
   refine ⟨_, rfl, ?_, rfl⟩
   have h1 : xs.all isVal = true := by
    rw [List.all_eq_true]
    intro x hxm
    obtain ⟨j, hj, rfl⟩ := List.mem_iff_getElem.1 hxm
    exact HA.out j hj (by omega)
   rw [h1]; simp

theorem ContainsFunc_vals (lo : Nat) (v : Value) (xs : List Int) (w : World) (hv : SliceK 1 encI lo w v xs) :
  Calls Tryz.prog 43 #[v, .func (.func 150) #[] #[]] w fun e w' => e = .returned (.bool (!xs.all isVal)) ∧ w = w' := by
 have HV := Lib.hid hv
 clear hv
 go_enter Tryz.func43, Tryz.ntmps43
 go_wp2_with fail
 refine (IndexFunc_vals lo v xs _ HV.out).mono ?_
 rintro e w' ⟨r, rfl, hr, rfl⟩
 have HR := Lib.hid hr
 clear hr
 go_wp2_with fail
 go_ret
 exact ⟨ret_bool HR.out, rfl⟩

theorem areValues_any (lo : Nat) (v : Value) (xs : List Int) (w : World) (hv : SliceK 1 encI lo w v xs) :
  Calls Tryz.prog 134 #[v] w fun e w' => e = .returned (.bool (xs.all isVal)) ∧ w = w' := by
 have HV := Lib.hid hv
 clear hv
 go_enter Tryz.func134, Tryz.ntmps134
 go_wp2_with fail
 refine (ContainsFunc_vals lo v xs _ HV.out).mono ?_
 rintro e w' ⟨rfl, rfl⟩
 go_wp2_with fail
 go_ret
 exact ⟨ret_bool (by simp), rfl⟩

end Go.Proofs.YtjoacldbgnphkaaGreatDoor

namespace Go.Proofs.YtjoacldbgnphkaaGreatDoor
open Go Go.RowKit

/-- Words read as numbers. -/
def decs (ss : List ByteArray) : List Int := ss.map fun s => (readDec s.data.toList).getD 0
def decsOk (ss : List ByteArray) : Bool := ss.all fun s => (readDec s.data.toList).isSome
def RetNums (ss : List ByteArray) (w : World) (e : Ending) (w' : World) : Prop :=
 ∃ v, e = .returned (.tuple #[v, .bool (decsOk ss)]) ∧ Below w.heap.size w w' ∧ (decsOk ss = true → w'.ownsRow w.heap.size 2 1 v (decs ss).length ((decs ss).map (Value.int .i64)))

theorem decsOk_none {ss : List ByteArray} {j : Nat} (h : j < ss.length) (hn : readDec ss[j].data.toList = none) : decsOk ss = false := by
 unfold decsOk
 rw [List.all_eq_false]
 exact ⟨ss[j], List.getElem_mem _, by rw [hn]; simp⟩

set_option maxRecDepth 100000 in
set_option maxHeartbeats 2000000 in
theorem readNumbers_any (lo : Nat) (v : Value) (ss : List ByteArray) (w : World) (hs : ∀ i (h : i < ss.length), ss[i].size ≤ 1073741824) (hl : ss.length ≤ 1073741824) (hv : SliceK 1 encS lo w v ss) (g : Glob w) :
  Calls Tryz.prog 105 #[v] w (RetNums ss w) := by
 obtain ⟨a, c, rfl, hcn, hcc, hrow⟩ := hv
 obtain ⟨i0, hi, hz0, hz1, hz2⟩ := info_parts info_int64
 have G := Lib.hid g
 have HSZ := Lib.hid hs
 clear g hs
 go_enter Tryz.func105, Tryz.ntmps105
 go_wp2_with fail
 go_loopw [4, 11] (fun v i wr => ∃ k : Nat, k ≤ ss.length ∧ i = .int .i64 k ∧ Below w.heap.size w wr ∧ wr.ownsRow w.heap.size 2 1 v k ((decs (ss.take k)).map (Value.int .i64)) ∧ ∀ q (h : q < ss.length), q < k → (readDec ss[q].data.toList).isSome = true) (fun _ i _ => ss.length - (intOf i).toNat)
 case atStart => exact ⟨0, Nat.zero_le _, rfl, Below.refl _ _, World.ownsRow_nil _ _ _ _, fun _ _ h => by omega⟩
 case round =>
  obtain ⟨k, hk, rfl, hb, ho, ha⟩ := hrel
  have HA := Lib.hid ha
  have HB := Lib.hid hb
  have HO := Lib.hid ho
  have hsz := hb.size
  clear ha hb ho
  by_cases hlt : k < ss.length
  ·obtain ⟨b1, o1, rfl, -, hbs, c1⟩ := (hrow.below HB.out).one hlt
   simp only [encS, List.getElem?_cons_zero] at c1
   clear hrow
   obtain ⟨p, hp⟩ : ∃ p, p = ss[k] := ⟨_, rfl⟩
   rw [← hp] at c1
   have HP := Lib.hid hp
   have hpz : p.size ≤ 1073741824 := by rw [hp]; exact HSZ.out k hlt
   clear hp
   obtain ⟨o, hd⟩ : ∃ o, readDec p.data.toList = o := ⟨_, rfl⟩
   have HD := Lib.hid hd
   clear hd
   go_wp2_with fail
   refine (ReadDecimal_any _ _ hpz (G.out.below HB.out)).mono ?_
   rintro e w1 ⟨rfl, hb1⟩
   have HB1 := Lib.hid hb1
   have hs1 := hb1.size
   clear hb1
   rw [HD.out]
   cases o with
   | none =>
    simp only [Option.isSome_none, Option.getD_none]
    go_wp2_with fail
    go_ret2
    have hf : decsOk ss = false := decsOk_none hlt (by rw [← HP.out]; exact HD.out)
    exact ⟨.slice none 0 0, by rw [hf]; rfl, HB.out.trans (HB1.out.mono hsz), fun h => by rw [hf] at h; cases h⟩
   | some n =>
    simp only [Option.isSome_some, Option.getD_some]
    have HO1 := Lib.hid (owns_below HO.out HB1.out)
    have HBB := Lib.hid (HB.out.trans (HB1.out.mono hsz))
    clear c1
    go_wp2_with (at_builtin; refine wpList_append_own _ rfl _ _ 69 rfl w.heap.size 2 i0 (.int .i64 0) 1 8 Tryz.underlying69 hi hz0 hz1 hz2 rfl (by decide) _ _ _ rfl (HO1.out.alloc _) ⟨w1.heap.size, 0, none⟩ 1 1 [.int .i64 n] rfl rfl ?c1 ?c2 ?c3 ?c4 ?c5 ?_)
    case c1 => exact (cell_one_new _ _ _)
    case c2 => intro u hu; simp at hu; subst hu; rfl
    case c3 => simp [maxLen]; omega
    case c4 => omega
    case c5 => simp; omega
    intro v' w3 ho1 hg1 _
    have HO2 : Hid (w3.ownsRow w.heap.size 2 1 v' (k + 1) ((decs (ss.take (k + 1))).map (Value.int .i64))) := by
     have e : (decs (ss.take (k + 1))).map (Value.int .i64) = (decs (ss.take k)).map (Value.int .i64) ++ [.int .i64 n] := by
      unfold decs
      rw [List.take_succ_eq_append_getElem hlt, List.map_append, List.map_append, ← HP.out]
      simp [HD.out]
     unfold Hid
     rw [e]
     exact ho1
    have HBX : Hid (Below w.heap.size w w3) := (HBB.out.alloc (by omega) _).grown hg1 (by simp; omega) (fun b e => (HO1.out.lt b e).1)
    clear ho1 hg1
    go_wp2
    go_roundw
    case rel => exact ⟨k + 1, by omega, by go_num, HBX.out, HO2.out, fun q h h' => by
     by_cases e : q = k
     ·subst e; rw [← HP.out, HD.out]; rfl
     ·exact HA.out q h (by omega)⟩
    case measure => simp [intOf]; omega
  ·obtain rfl : k = ss.length := by omega
   have HF : Hid (decsOk ss = true) := by
    unfold Hid decsOk
    rw [List.all_eq_true]
    intro x hx
    obtain ⟨q, hq, rfl⟩ := List.mem_iff_getElem.1 hx
    exact HA.out q hq hq
   have HO2 : Hid (wr.ownsRow w.heap.size 2 1 u4 (decs ss).length ((decs ss).map (Value.int .i64))) := by
    have := HO.out
    rw [List.take_length] at this
    unfold Hid
    rw [show (decs ss).length = ss.length from by simp [decs]]
    exact this
   clear hrow HO
   go_wp2_with fail
   go_ret2
   exact ⟨_, by rw [HF.out]; rfl, HB.out, fun _ => HO2.out⟩

end Go.Proofs.YtjoacldbgnphkaaGreatDoor

namespace Go.Proofs.YtjoacldbgnphkaaGreatDoor
open Go Go.RowKit

def wordsOf (xs : List Int) : List ByteArray := xs.map fun n => ⟨(Lib.itoa n).toArray⟩

set_option maxHeartbeats 1000000 in
theorem joined_any (v : Value) (sep : ByteArray) (lo : Nat) (xs : List Int) (w : World) (hn : xs.length ≤ 1048576) (hb : ∀ i (h : i < xs.length), -9223372036854775808 ≤ xs[i] ∧ xs[i] ≤ 9223372036854775807) (hv : SliceK 1 encI lo w v xs) (g : Glob w)
  (hlen : (Lib.join ((wordsOf xs).map (·.data.toList)) sep.data.toList).length ≤ 1073741824) :
  Calls Tryz.prog 135 #[v, .string sep] w fun e w' => e = .returned (.string ⟨(Lib.join ((wordsOf xs).map (·.data.toList)) sep.data.toList).toArray⟩) ∧ Below w.heap.size w w' := by
 obtain ⟨a, ca, rfl, hna, hca, ha⟩ := hv
 obtain ⟨i0, hi, hz0, hz1, hz2⟩ := info_parts info_str
 have HBD := Lib.hid hb
 have G := Lib.hid g
 have HLEN := Lib.hid hlen
 clear hb g hlen
 go_enter Tryz.func135, Tryz.ntmps135
 go_wp2_with (at_make; refine wpList_make_full _ rfl _ _ 22 rfl w.heap.size 9 i0 _ 1 Tryz.underlying22 hi hz0 hz1 .i64 .i64 _ _ xs.length rfl rfl rfl rfl ?_ ?_ ?_ ?_)
 ·rw [hz2]; omega
 ·simp [maxLen]; omega
 ·exact Nat.le_refl _
 ·intro w1 ho hg
  rw [toList_madeCells_one] at ho
  have hb1 : Below w.heap.size w w1 := (Below.refl _ w).grown hg (Nat.le_refl _) (fun _ h => by cases h)
  clear hi hz0 hz1 hz2 i0
  have HO := Lib.hid ho
  clear ho hg
  go_wp2_with fail
  have hwl : (wordsOf xs).length = xs.length := by simp [wordsOf]
  go_loopw [13] (fun i wr => ∃ k : Nat, k ≤ xs.length ∧ i = .int .i64 k ∧ Below w.heap.size w wr ∧ w.heap.size < wr.heap.size ∧ wr.ownsRow w.heap.size 9 1 (.slice (some ⟨w.heap.size, 0, none⟩) xs.length xs.length) xs.length (((wordsOf xs).take k).map .string ++ List.replicate ((wordsOf xs).length - k) (.string ⟨#[]⟩))) (fun i _ => xs.length - (intOf i).toNat)
  case atStart => exact ⟨0, Nat.zero_le _, rfl, hb1, (HO.out.lt _ rfl).2, by simpa [hwl] using HO.out⟩
  case round =>
   obtain ⟨k, hk, rfl, hbl, hsl, ho⟩ := hrel
   clear HO hb1
   have HBL := Lib.hid hbl
   have HO1 := Lib.hid ho
   have hsz := hbl.size
   clear ho hbl
   by_cases hlt : k < xs.length
   ·obtain ⟨b1, o1, rfl, -, h1, c1⟩ := (ha.below HBL.out).one hlt
    simp only [encI, List.getElem?_cons_zero] at c1
    clear ha
    go_wp2_with fail
    refine (Decimal_any _ _ (HBD.out k hlt).1 (HBD.out k hlt).2 (G.out.below HBL.out)).mono ?_
    rintro e w2 ⟨rfl, hb2⟩
    have hlt' : k < (wordsOf xs).length := by omega
    have ho3 := owns_below HO1.out hb2
    have c2 := ho3.cellAt k (by omega)
    rw [filled_get _ _ _ _ hlt'] at c2
    have c3 := ho3.frozenAt k
    have ho2 := ho3.stored k (.string (wordsOf xs)[k])
    rw [filled_set _ _ _ _ hlt'] at ho2
    have hwk : (wordsOf xs)[k] = ⟨(Lib.itoa xs[k]).toArray⟩ := by simp [wordsOf]
    rw [hwk] at ho2
    have HO := Lib.hid ho2
    have HB2 := Lib.hid (HBL.out.trans (hb2.mono hsz))
    have hs2 := hb2.size
    clear ho2 ho3 hb2 HO1 HBL c1
    go_wp2
    go_roundw
    case rel => exact ⟨k + 1, by omega, by go_num, HB2.out.setCell (by exact Nat.le_refl _) _, by simp; omega, HO.out.1⟩
    case measure => simp [intOf]; omega
   ·clear ha
    obtain rfl : k = xs.length := by omega
    have ho4 : wr.ownsRow w.heap.size 9 1 (.slice (some ⟨w.heap.size, 0, none⟩) (wordsOf xs).length (wordsOf xs).length) (wordsOf xs).length ((wordsOf xs).flatMap encS) := by
     have := HO1.out
     rw [flat_encS, hwl]
     rw [hwl, ← hwl, List.take_length, Nat.sub_self, List.replicate_zero, List.append_nil, hwl] at this
     exact this
    have HC : Hid (∀ (j : Nat) x, (wordsOf xs)[j]? = some x → wr.cell? ⟨w.heap.size, 0 + j, none⟩ = some (.string x)) := by
     intro j x hx
     obtain ⟨hj, rfl⟩ := List.getElem?_eq_some_iff.1 hx
     have := ho4.cellAt j (by omega)
     rw [Nat.zero_add, this, flat_encS]
     simp [hj]
    clear ho4
    have HJ := Tryz.strings_Join w.heap.size 0 xs.length (wordsOf xs) sep wr HC.out hsl (by omega) (by omega) (Nat.le_trans HLEN.out (by decide))
    rw [hwl] at HJ
    have HJJ := Lib.hid HJ
    clear HJ
    go_wp2_with fail
    refine Calls.mono HJJ.out ?_
    rintro e w2 ⟨rfl, hb2⟩
    have HB2 := Lib.hid (HBL.out.trans (hb2.mono hsz))
    clear hb2
    go_wp2_with fail
    go_ret
    exact ⟨rfl, HB2.out⟩

end Go.Proofs.YtjoacldbgnphkaaGreatDoor

namespace Go.Proofs.YtjoacldbgnphkaaGreatDoor
open Go Go.RowKit

def labB (name : List UInt8) (xs : List Int) : Bool := if name = tauL then xs.isEmpty else isAction name && decide (xs.length ≤ 2) && xs.all isVal
def labTxt (name : List UInt8) (xs : List Int) : List UInt8 := if xs.isEmpty then name else name ++ 40 :: (Lib.join ((wordsOf xs).map (·.data.toList)) [44] ++ [41])
def RetLab (name : List UInt8) (xs : List Int) (w : World) (e : Ending) (w' : World) : Prop :=
 ∃ t : ByteArray, e = .returned (.tuple #[.string t, .bool (labB name xs)]) ∧ Below w.heap.size w w' ∧ (labB name xs = true → t.data.toList = labTxt name xs)

theorem two_digits : ∀ n : Nat, n < 64 → (Lib.decDigits n).length ≤ 2 := by
 intro n hn
 rw [Lib.decDigits_length]
 by_cases h : n < 10
 ·rw [Lib.nDigits_small h]; decide
 ·rw [Lib.nDigits_big h, Lib.nDigits_small (by omega)]; decide
theorem itoa_short {n : Int} (h : isVal n = true) : (Lib.itoa n).length ≤ 2 := by
 unfold isVal at h
 simp at h
 unfold Lib.itoa
 rw [if_neg (by omega)]
 exact two_digits _ (by omega)
theorem join_short {xs : List Int} (h2 : xs.length ≤ 2) (h : xs.all isVal = true) : (Lib.join ((wordsOf xs).map (·.data.toList)) [44]).length ≤ 5 := by
 match xs, h2, h with
 | [], _, _ => simp [wordsOf, Lib.join]
 | [x], _, h =>
  have hx := itoa_short (List.all_eq_true.1 h x (by simp))
  simp [wordsOf, Lib.join_length, Lib.lens]; omega
 | [x, y], _, h =>
  have hx := itoa_short (List.all_eq_true.1 h x (by simp))
  have hy := itoa_short (List.all_eq_true.1 h y (by simp))
  simp [wordsOf, Lib.join_length, Lib.lens]; omega

set_option maxRecDepth 100000 in
set_option maxHeartbeats 1000000 in
theorem labelOf_any (v : Value) (s : ByteArray) (lo : Nat) (xs : List Int) (w : World) (hs : s.size ≤ 1073741824) (hn : xs.length ≤ 1073741824) (hv : SliceK 1 encI lo w v xs) (g : Glob w) :
  Calls Tryz.prog 108 #[.string s, v] w (RetLab s.data.toList xs w) := by
 have HV := Lib.hid hv
 obtain ⟨a, ca, rfl, -, -, -⟩ := hv
 by_cases ht : s.toList = tauL
 ·have hb : Hid (labB s.data.toList xs = ((xs.length : Int) == 0)) := by
   unfold Hid labB
   rw [if_pos (by rw [← Lib.toList_data]; exact ht)]
   cases xs with
   | nil => rfl
   | cons x r =>
    have : (((x :: r).length : Int) == 0) = false := by rw [beq_eq_false_iff_ne]; simp; omega
    rw [this]; rfl
  have ht' : (s.toList == tauL) = true := by simpa using ht
  unfold tauL at ht ht'
  go_enter Tryz.func108, Tryz.ntmps108
  go_wp2_with fail
  go_ret2
  refine ⟨⟨#[116, 97, 117]⟩, by rw [hb.out]; rfl, Below.refl _ _, fun h => ?_⟩
  rw [hb.out] at h
  have h0 : xs = [] := List.eq_nil_of_length_eq_zero (by simpa using h)
  subst h0
  unfold labTxt
  have e : s.data.toList = [116, 97, 117] := by rw [← Lib.toList_data]; exact ht
  rw [e]
  rfl
 ·have hnt : ¬ s.data.toList = tauL := by rw [← Lib.toList_data]; exact ht
  have ht' : (s.toList == tauL) = false := by simpa using ht
  have HL : Hid (labB s.data.toList xs = (isAction s.data.toList && decide (xs.length ≤ 2) && xs.all isVal)) := by unfold Hid labB; rw [if_neg hnt]
  unfold tauL at ht ht' hnt
  obtain ⟨b, hb⟩ : ∃ b, isAction s.data.toList = b := ⟨_, rfl⟩
  have HB := Lib.hid hb
  clear hb
  cases b
  ·have HF : Hid (labB s.data.toList xs = false) := by unfold Hid; rw [HL.out, HB.out]; rfl
   go_enter Tryz.func108, Tryz.ntmps108
   go_wp2_with fail
   refine (IsAction_any _ _ hs).mono ?_
   rintro e w' ⟨rfl, rfl⟩
   rw [HB.out]
   go_wp2_with fail
   go_ret2
   exact ⟨⟨#[]⟩, by rw [HF.out]; rfl, Below.refl _ _, fun h => by rw [HF.out] at h; cases h⟩
  ·by_cases h2 : 2 < (xs.length : Int)
   ·have HF : Hid (labB s.data.toList xs = false) := by unfold Hid; rw [HL.out, decide_eq_false (by omega)]; simp
    go_enter Tryz.func108, Tryz.ntmps108
    go_wp2_with fail
    refine (IsAction_any _ _ hs).mono ?_
    rintro e w' ⟨rfl, rfl⟩
    rw [HB.out]
    go_wp2_with fail
    go_ret2
    exact ⟨⟨#[]⟩, by rw [HF.out]; rfl, Below.refl _ _, fun h => by rw [HF.out] at h; cases h⟩
   ·cases hall : xs.all isVal
    ·have HF : Hid (labB s.data.toList xs = false) := by unfold Hid; rw [HL.out, hall]; simp
     have HALL := Lib.hid hall
     clear hall
     go_enter Tryz.func108, Tryz.ntmps108
     go_wp2_with fail
     refine (IsAction_any _ _ hs).mono ?_
     rintro e w' ⟨rfl, rfl⟩
     rw [HB.out]
     go_wp2_with fail
     refine (areValues_any lo _ xs _ HV.out).mono ?_
     rintro e w' ⟨rfl, rfl⟩
     rw [HALL.out]
     go_wp2_with fail
     go_ret2
     exact ⟨⟨#[]⟩, by rw [HF.out]; rfl, Below.refl _ _, fun h => by rw [HF.out] at h; cases h⟩
    ·have HF : Hid (labB s.data.toList xs = true) := by unfold Hid; rw [HL.out, hall, HB.out, decide_eq_true (by omega)]; rfl
     have HALL := Lib.hid hall
     clear hall
     by_cases h0 : xs.length = 0
     ·have h0' : ((xs.length : Int) == 0) = true := by rw [beq_iff_eq]; omega
      have HT : Hid (labTxt s.data.toList xs = s.data.toList) := by unfold Hid labTxt; rw [if_pos (by rw [List.eq_nil_of_length_eq_zero h0]; rfl)]
      have HV0 : Hid (SliceK 1 encI lo w (.slice a 0 ca) xs) := by have := HV.out; rw [h0] at this; exact this
      go_enter Tryz.func108, Tryz.ntmps108
      go_wp2_with fail
      refine (IsAction_any _ _ hs).mono ?_
      rintro e w' ⟨rfl, rfl⟩
      rw [HB.out]
      go_wp2_with fail
      refine (areValues_any lo _ xs _ HV0.out).mono ?_
      rintro e w' ⟨rfl, rfl⟩
      rw [HALL.out]
      go_wp2_with fail
      go_ret2
      exact ⟨s, by rw [HF.out]; rfl, Below.refl _ _, fun _ => HT.out.symm⟩
     ·have h0' : ((xs.length : Int) == 0) = false := by rw [beq_eq_false_iff_ne]; omega
      have HT : Hid (labTxt s.data.toList xs = s.data.toList ++ 40 :: (Lib.join ((wordsOf xs).map (·.data.toList)) [44] ++ [41])) := by
       unfold Hid labTxt; rw [if_neg (by rw [List.isEmpty_iff_length_eq_zero]; exact h0)]
      have HLEN : Hid ((Lib.join ((wordsOf xs).map (·.data.toList)) (⟨#[44]⟩ : ByteArray).data.toList).length ≤ 1073741824) := Nat.le_trans (join_short (by omega) HALL.out) (by decide)
      have HBD : Hid (∀ i (h : i < xs.length), -9223372036854775808 ≤ xs[i] ∧ xs[i] ≤ 9223372036854775807) := by
       intro i hi
       have := List.all_eq_true.1 HALL.out xs[i] (List.getElem_mem _)
       unfold isVal at this
       simp at this
       omega
      have hlen : (Lib.join (List.map (fun x => x.data.toList) (wordsOf xs)) [44]).length ≤ 1073741824 := HLEN.out
      have hq1 : ¬ 9223372036854775807 < s.size + 1 + (Lib.join (List.map (fun x => x.data.toList) (wordsOf xs)) [44]).length := by omega
      have hq2 : ¬ 9223372036854775807 < s.size + 1 + (Lib.join (List.map (fun x => x.data.toList) (wordsOf xs)) [44]).length + 1 := by omega
      clear hlen
      go_enter Tryz.func108, Tryz.ntmps108
      go_wp2_with fail
      refine (IsAction_any _ _ hs).mono ?_
      rintro e w' ⟨rfl, rfl⟩
      rw [HB.out]
      go_wp2_with fail
      refine (areValues_any lo _ xs _ HV.out).mono ?_
      rintro e w' ⟨rfl, rfl⟩
      rw [HALL.out]
      go_wp2_with fail
      refine (joined_any _ ⟨#[44]⟩ lo xs _ (by omega) HBD.out HV.out g HLEN.out).mono ?_
      rintro e w2 ⟨rfl, hb2⟩
      have HB2 := Lib.hid hb2
      clear hb2
      go_wp2_with fail
      go_ret2
      refine ⟨_, by rw [HF.out]; rfl, HB2.out, fun _ => ?_⟩
      rw [HT.out]
      simp

end Go.Proofs.YtjoacldbgnphkaaGreatDoor

namespace Go.Proofs.YtjoacldbgnphkaaGreatDoor
open Go Go.RowKit

/-- The parts that readLabel reads. -/
def partsB (rest : List UInt8) : List ByteArray := Lib.splitB ⟨#[44]⟩ 0 (Lib.countB ⟨(Lib.trimSuffix rest [41]).toArray⟩ ⟨#[44]⟩) ⟨(Lib.trimSuffix rest [41]).toArray⟩
def readOk (l : List UInt8) : Bool :=
 if (Lib.cut l [40]).2.2 = true then
  decsOk (partsB (Lib.cut l [40]).2.1) && labB (Lib.cut l [40]).1 (decs (partsB (Lib.cut l [40]).2.1)) && decide (labTxt (Lib.cut l [40]).1 (decs (partsB (Lib.cut l [40]).2.1)) = l)
 else labB (Lib.cut l [40]).1 [] && decide ((Lib.cut l [40]).1 = l)
def RetRead (l : List UInt8) (w : World) (e : Ending) (w' : World) : Prop := ∃ n v, e = .returned (.tuple #[n, v, .bool (readOk l)]) ∧ Below w.heap.size w w' ∧ (readOk l = true → n = .string ⟨(Lib.cut l [40]).1.toArray⟩)

theorem splitB_mem (sep : ByteArray) : ∀ (k : Nat) (s p : ByteArray), p ∈ Lib.splitB sep 0 k s → p.size ≤ s.size
 | 0, s, p, h => by simp [Lib.splitB] at h; subst h; exact Nat.le_refl _
 | k + 1, s, p, h => by
  unfold Lib.splitB at h
  split at h
  ·simp at h; subst h; exact Nat.le_refl _
  ·rcases List.mem_cons.1 h with rfl | h
   ·rw [ByteArray.size_extract]; omega
   ·have := splitB_mem sep k _ p h
    rw [ByteArray.size_extract] at this; omega

theorem cut_size (l : List UInt8) : (Lib.cut l [40]).1.length ≤ l.length ∧ (Lib.cut l [40]).2.1.length ≤ l.length := by
 unfold Lib.cut
 split
 ·simp; omega
 ·simp

set_option maxRecDepth 100000 in
set_option maxHeartbeats 1000000 in
theorem readLabel_any (s : ByteArray) (w : World) (hs : s.size ≤ 1048576) (g : Glob w) : Calls Tryz.prog 80 #[.string s] w (RetRead s.data.toList w) := by
 have G := Lib.hid g
 obtain ⟨m, hm⟩ := g.max
 have HM := Lib.hid hm
 clear g hm
 have hz := cut_size s.data.toList
 rw [len_data] at hz
 obtain ⟨l1, hl1⟩ : ∃ l1, (Lib.cut s.data.toList [40]).1 = l1 := ⟨_, rfl⟩
 obtain ⟨l2, hl2⟩ : ∃ l2, (Lib.cut s.data.toList [40]).2.1 = l2 := ⟨_, rfl⟩
 rw [hl1, hl2] at hz
 have HNAME := Lib.hid hl1
 have HR0 : Hid (readOk s.data.toList = if (Lib.cut s.data.toList [40]).2.2 = true then decsOk (partsB l2) && labB l1 (decs (partsB l2)) && decide (labTxt l1 (decs (partsB l2)) = s.data.toList) else labB l1 [] && decide (l1 = s.data.toList)) := by
  unfold Hid readOk
  rw [hl1, hl2]
 have HCUT : Hid (Calls Tryz.prog 104 #[.string s, .string ⟨#[40]⟩] w fun e w' => e = .returned (.tuple #[.string ⟨l1.toArray⟩, .string ⟨l2.toArray⟩, .bool (Lib.cut s.data.toList [40]).2.2]) ∧ ∃ n, w' = w.drewN n) := by
  have := Tryz.strings_Cut s ⟨#[40]⟩ m w (by omega) HM.out
  unfold Hid
  rw [← hl1, ← hl2]
  exact this
 have hz1 : (⟨l1.toArray⟩ : ByteArray).size ≤ 1073741824 := by rw [Lib.size_eq]; simp; omega
 clear hl1 hl2
 cases hmore : (Lib.cut s.data.toList [40]).2.2
 ·rw [hmore] at HCUT HR0
  have HN0 : Hid (SliceK 1 encI 0 w (.slice none 0 0) []) := ⟨none, 0, rfl, by simp, by simp, .inl rfl⟩
  go_enter Tryz.func80, Tryz.ntmps80
  go_wp2_with fail
  refine Calls.mono HCUT.out ?_
  rintro e w1 ⟨rfl, k, rfl⟩
  have HB0 : Hid (Below w.heap.size w (w.drewN k)) := below_drewN (Below.refl _ _) k
  go_wp2_with fail
  refine (labelOf_any (.slice none 0 0) ⟨l1.toArray⟩ 0 [] _ hz1 (by simp) (HN0.out.below HB0.out) (G.out.below HB0.out)).mono ?_
  rintro e w2 ⟨t, rfl, hb2, ht⟩
  have HB2 := Lib.hid (HB0.out.trans (hb2.mono HB0.out.size))
  have HT := Lib.hid ht
  clear hb2 ht
  change Hid (labB l1 [] = true → t.data.toList = labTxt l1 []) at HT
  show _
  obtain ⟨b, hb⟩ : ∃ b, labB l1 [] = b := ⟨_, rfl⟩
  rw [show labB (⟨l1.toArray⟩ : ByteArray).data.toList [] = b from hb]
  cases b
  ·have HF : Hid (readOk s.data.toList = false) := by unfold Hid; rw [HR0.out, hb]; simp
   clear hb
   go_wp2_with fail
   go_ret3
   exact ⟨.string ⟨#[]⟩, .slice none 0 0, by rw [HF.out]; rfl, HB2.out, fun h => by rw [HF.out] at h; cases h⟩
  ·have htt : t.data.toList = l1 := HT.out hb
   by_cases heq : l1 = s.data.toList
   ·have HEQ := Lib.hid heq
    have HF : Hid (readOk s.data.toList = true) := by unfold Hid; rw [HR0.out, hb]; simp [heq]
    have hq : (t.toList == s.toList) = true := by rw [Lib.toList_data, Lib.toList_data, htt, heq]; simp
    clear hb htt
    go_wp2_with fail
    go_ret3
    exact ⟨_, _, by rw [HF.out]; rfl, HB2.out, fun _ => by rw [HNAME.out, HEQ.out]; rfl⟩
   ·have HF : Hid (readOk s.data.toList = false) := by unfold Hid; rw [HR0.out, hb]; simp [heq]
    have hq : (t.toList == s.toList) = false := by rw [Lib.toList_data, Lib.toList_data, htt]; simpa using heq
    clear hb htt heq
    go_wp2_with fail
    go_ret3
    exact ⟨.string ⟨#[]⟩, .slice none 0 0, by rw [HF.out]; rfl, HB2.out, fun h => by rw [HF.out] at h; cases h⟩
 ·rw [hmore] at HCUT HR0
  obtain ⟨r, hr⟩ : ∃ r : ByteArray, r = ⟨(Lib.trimSuffix l2 [41]).toArray⟩ := ⟨_, rfl⟩
  have hrz : r.size ≤ 1073741824 := by
   rw [hr, Lib.size_eq]
   show (Lib.trimSuffix l2 [41]).length ≤ _
   unfold Lib.trimSuffix
   split
   ·rw [List.length_take]; omega
   ·omega
  obtain ⟨ps, hps⟩ : ∃ ps, ps = partsB l2 := ⟨_, rfl⟩
  have hps' : Lib.splitB ⟨#[44]⟩ 0 (Lib.countB r ⟨#[44]⟩) r = ps := by rw [hps, hr]; rfl
  have hpl : ps.length = Lib.countB r ⟨#[44]⟩ + 1 := by rw [← hps']; exact Lib.splitB_all _ (by decide) 0 _ _ rfl
  rw [← hps] at HR0
  have hl2z : (⟨l2.toArray⟩ : ByteArray).size ≤ 9223372036854775807 := by rw [Lib.size_eq]; simp; omega
  have HTS : Hid (∀ w', Calls Tryz.prog 107 #[.string ⟨l2.toArray⟩, .string ⟨#[41]⟩] w' fun e w2 => e = .returned (.string r) ∧ w2 = w') := by
   intro w'
   rw [hr]
   exact Tryz.strings_TrimSuffix ⟨l2.toArray⟩ ⟨#[41]⟩ w' hl2z
  have HSP : Hid (∀ w', w'.cell? ⟨0, 0, none⟩ = some (.int .i64 m) → Calls Tryz.prog 106 #[.string r, .string ⟨#[44]⟩] w' fun e w2 => e = .returned (.slice (some ⟨w'.heap.size, 0, none⟩) ps.length ps.length) ∧ w2 = w'.alloc (.cells (ps.map Value.string).toArray 9)) := by
   intro w' hw
   rw [hpl, ← hps']
   exact Tryz.strings_Split r ⟨#[44]⟩ m w' (by omega) hw (by decide)
  have HPZ : Hid (∀ i (h : i < ps.length), ps[i].size ≤ 1073741824) := by
   intro i hi
   have h1 : ps[i] ∈ Lib.splitB ⟨#[44]⟩ 0 (Lib.countB r ⟨#[44]⟩) r := by rw [hps']; exact List.getElem_mem _
   exact Nat.le_trans (splitB_mem _ _ _ _ h1) hrz
  have hrz2 : r.size ≤ 1048576 := by
   rw [hr, Lib.size_eq]
   show (Lib.trimSuffix l2 [41]).length ≤ _
   unfold Lib.trimSuffix
   split
   ·rw [List.length_take]; omega
   ·omega
  have hplen : ps.length ≤ 1048577 := by
   have := Lib.countB_le ⟨#[44]⟩ (by decide) _ r (Nat.le_refl _)
   omega
  clear hrz2
  clear hps hps' hpl hr hl2z hrz hz
  go_enter Tryz.func80, Tryz.ntmps80
  go_wp2_with fail
  refine Calls.mono HCUT.out ?_
  rintro e w1 ⟨rfl, k, rfl⟩
  have HB0 : Hid (Below w.heap.size w (w.drewN k)) := below_drewN (Below.refl _ _) k
  go_wp2_with fail
  refine Calls.mono (HTS.out _) ?_
  rintro e w1 ⟨rfl, rfl⟩
  go_wp2_with fail
  refine Calls.mono (HSP.out _ (keeps HB0.out (World.block_lt_of_cell? w _ HM.out) HM.out)) ?_
  rintro e w1 ⟨rfl, hw1⟩
  have HB1 : Hid (Below w.heap.size w w1) := by
   unfold Hid
   rw [hw1]
   exact HB0.out.alloc HB0.out.size _
  have HPS : Hid (SliceK 1 encS 0 w1 (.slice (some ⟨(w.drewN k).heap.size, 0, none⟩) ps.length ps.length) ps) := by
   have := World.ownsRow_lit (base := 0) (e := 9) (size := 1) (w.drewN k) (ps.map Value.string).toArray ps.length (Nat.zero_le _) (by simp [maxLen]; omega) (by simp)
   rw [← hw1] at this
   exact SliceK.of_owns (e := 9) encS_len rfl (by rw [flat_encS]; simpa using this)
  clear hw1
  go_wp2_with fail
  refine (readNumbers_any 0 _ ps _ HPZ.out (by omega) HPS.out (G.out.below HB1.out)).mono ?_
  rintro e w2 ⟨v, rfl, hb2, ho2⟩
  have HB2 := Lib.hid (HB1.out.trans (hb2.mono HB1.out.size))
  have HO2 := Lib.hid ho2
  clear hb2 ho2
  cases hok : decsOk ps
  ·have HF : Hid (readOk s.data.toList = false) := by unfold Hid; rw [HR0.out, hok]; simp
   clear hok
   go_wp2_with fail
   go_ret3
   exact ⟨.string ⟨#[]⟩, .slice none 0 0, by rw [HF.out]; rfl, HB2.out, fun h => by rw [HF.out] at h; cases h⟩
  ·have HNS : Hid (SliceK 1 encI 0 w2 v (decs ps)) := SliceK.of_owns (e := 2) encI_len rfl (by rw [flat_encI]; exact own_lower (HO2.out hok) (Nat.zero_le _))
   have hdl : (decs ps).length ≤ 1048577 := by simpa [decs] using hplen
   rw [hok] at HR0
   clear hok HO2
   go_wp2_with fail
   refine (labelOf_any v ⟨l1.toArray⟩ 0 (decs ps) _ hz1 (by omega) HNS.out (G.out.below HB2.out)).mono ?_
   rintro e w3 ⟨t, rfl, hb3, ht⟩
   have HB3 := Lib.hid (HB2.out.trans (hb3.mono HB2.out.size))
   have HT := Lib.hid ht
   clear hb3 ht
   change Hid (labB l1 (decs ps) = true → t.data.toList = labTxt l1 (decs ps)) at HT
   obtain ⟨b, hb⟩ : ∃ b, labB l1 (decs ps) = b := ⟨_, rfl⟩
   rw [show labB (⟨l1.toArray⟩ : ByteArray).data.toList (decs ps) = b from hb]
   cases b
   ·have HF : Hid (readOk s.data.toList = false) := by unfold Hid; rw [HR0.out, hb]; simp
    clear hb
    go_wp2_with fail
    go_ret3
    exact ⟨.string ⟨#[]⟩, .slice none 0 0, by rw [HF.out]; rfl, HB3.out, fun h => by rw [HF.out] at h; cases h⟩
   ·have htt : t.data.toList = labTxt l1 (decs ps) := HT.out hb
    by_cases heq : labTxt l1 (decs ps) = s.data.toList
    ·have HF : Hid (readOk s.data.toList = true) := by unfold Hid; rw [HR0.out, hb]; simp [heq]
     have hq : (t.toList == s.toList) = true := by rw [Lib.toList_data, Lib.toList_data, htt, heq]; simp
     clear hb htt heq
     go_wp2_with fail
     go_ret3
     exact ⟨_, _, by rw [HF.out]; rfl, HB3.out, fun _ => by rw [HNAME.out]; rfl⟩
    ·have HF : Hid (readOk s.data.toList = false) := by unfold Hid; rw [HR0.out, hb]; simp [heq]
     have hq : (t.toList == s.toList) = false := by rw [Lib.toList_data, Lib.toList_data, htt]; simpa using heq
     clear hb htt heq
     go_wp2_with fail
     go_ret3
     exact ⟨.string ⟨#[]⟩, .slice none 0 0, by rw [HF.out]; rfl, HB3.out, fun h => by rw [HF.out] at h; cases h⟩

theorem IsLabel_any (s : ByteArray) (w : World) (hs : s.size ≤ 1048576) (g : Glob w) : Calls Tryz.prog 62 #[.string s] w fun e w' => e = .returned (.bool (readOk s.data.toList)) ∧ Below w.heap.size w w' := by
 have G := Lib.hid g
 clear g
 go_enter Tryz.func62, Tryz.ntmps62
 go_wp2_with fail
 refine (readLabel_any _ _ hs G.out).mono ?_
 rintro e w' ⟨n, v, rfl, hb, -⟩
 have HB := Lib.hid hb
 clear hb
 go_wp2_with fail
 go_ret
 exact ⟨rfl, HB.out⟩

end Go.Proofs.YtjoacldbgnphkaaGreatDoor

namespace Go.Proofs.YtjoacldbgnphkaaGreatDoor
open Go Go.RowKit

theorem digit_back {c : UInt8} (h : digit c = true) : UInt8.ofNat (48 + (c.toNat - 48)) = c := by
 unfold digit at h
 simp only [Bool.and_eq_true, decide_eq_true_eq] at h
 rw [show 48 + (c.toNat - 48) = c.toNat from by omega]
 exact UInt8.ofNat_toNat
theorem digit_lt {c : UInt8} (h : digit c = true) : c.toNat - 48 < 10 ∧ 48 ≤ c.toNat := by
 unfold digit at h
 simp only [Bool.and_eq_true, decide_eq_true_eq] at h
 omega
theorem decDigits_step (n d : Nat) (hn : 0 < n) (hd : d < 10) : Lib.decDigits (10 * n + d) = Lib.decDigits n ++ [UInt8.ofNat (48 + d)] := by
 rw [Lib.decDigits, dif_neg (by omega), show (10 * n + d) / 10 = n from by omega, show (10 * n + d) % 10 = d from by omega]
theorem decDigits_val : ∀ (l : List UInt8) (n : Nat), 0 < n → l.all digit = true → Lib.decDigits (valFrom n l) = Lib.decDigits n ++ l
 | [], n, _, _ => by rw [valFrom_nil, List.append_nil]
 | c :: r, n, hn, h => by
  simp only [List.all_cons, Bool.and_eq_true] at h
  rw [valFrom_cons, decDigits_val r _ (by omega) h.2, decDigits_step n _ hn (digit_lt h.1).1, digit_back h.1, List.append_assoc]
  rfl
theorem decDigits_le : ∀ (k u : Nat), 1 ≤ k → u < 10 ^ k → (Lib.decDigits u).length ≤ k
 | 0, _, h, _ => by omega
 | k + 1, u, _, h => by
  rw [Lib.decDigits]
  split
  ·simp
  ·have h1 : 1 ≤ k := by
    rcases Nat.eq_zero_or_pos k with h0 | h0
    ·subst h0; simp at h; omega
    ·exact h0
   have := decDigits_le k (u / 10) h1 (by rw [Nat.pow_succ] at h; omega)
   simp; omega
theorem digit_of {d : Nat} (h : d < 10) : digit (UInt8.ofNat (48 + d)) = true := by
 unfold digit
 have : (UInt8.ofNat (48 + d)).toNat = 48 + d := by rw [UInt8.toNat_ofNat']; omega
 rw [this]
 simp; omega
theorem decDigits_digit (u : Nat) : (Lib.decDigits u).all digit = true := by
 induction u using Nat.strongRecOn with
 | ind u ih =>
  rw [Lib.decDigits]
  split
  ·next h => rw [List.all_cons, digit_of h]; rfl
  ·next h => rw [List.all_append, ih (u / 10) (by omega), List.all_cons, digit_of (show u % 10 < 10 by omega)]; rfl
/-- The digits are those of their value, but for leading zeros. -/
theorem decDigits_back {ds : List UInt8} (h0 : ds ≠ []) (h : ds.all digit = true) : Lib.decDigits (valFrom 0 ds) = ds ↔ ¬ (ds.head? = some 48 ∧ 1 < ds.length) := by
 cases ds with
 | nil => exact absurd rfl h0
 | cons c r =>
  have ha := h
  simp only [List.all_cons, Bool.and_eq_true] at h
  by_cases hc : c = 48
  ·subst hc
   constructor
   ·rintro e ⟨-, hl⟩
    have h1 : valFrom 0 (48 :: r) = valFrom 0 r := by rw [valFrom_cons]; rfl
    have h2 := valFrom_lt r 0 h.2
    have h3 := decDigits_le r.length (valFrom 0 r) (by simp at hl; omega) (by omega)
    rw [h1] at e
    rw [e] at h3
    simp at h3; omega
   ·intro hn
    have : r = [] := by
     rcases r with _ | ⟨a, b⟩
     ·rfl
     ·exact absurd ⟨rfl, by simp⟩ hn
    subst this
    rw [valFrom_cons, valFrom_nil, Lib.decDigits_one (by decide)]
    rfl
  ·constructor
   ·rintro - ⟨e, -⟩
    simp at e
    exact hc e
   ·intro _
    have hd := digit_lt h.1
    have hpos : 0 < c.toNat - 48 := by
     have : c.toNat ≠ 48 := fun e => hc (UInt8.toNat_inj.1 e)
     omega
    rw [valFrom_cons, Nat.mul_zero, Nat.zero_add, decDigits_val r _ hpos h.2, Lib.decDigits_one hd.1, digit_back h.1]
    rfl

theorem digitVal_of {c : UInt8} (h : digit c = true) : Lib.digitVal c = some (c.toNat - 48) := by
 unfold digit at h
 simp only [Bool.and_eq_true, decide_eq_true_eq] at h
 unfold Lib.digitVal
 rw [if_pos (by omega)]
theorem digitVal_not {c : UInt8} (h : digit c = false) : Lib.digitVal c = none := by
 unfold digit at h
 simp only [Bool.and_eq_false_iff, decide_eq_false_iff_not] at h
 unfold Lib.digitVal
 rw [if_neg (by omega)]
theorem decFrom_eq : ∀ (l : List UInt8) (n : Nat), Lib.decFrom n l = if l.all digit then some (valFrom n l) else none
 | [], n => by simp [Lib.decFrom, valFrom_nil]
 | c :: r, n => by
  unfold Lib.decFrom
  cases hc : digit c with
  | true => rw [digitVal_of hc]; simp only; rw [decFrom_eq r, valFrom_cons, Nat.mul_comm]; simp [hc]
  | false => rw [digitVal_not hc]; simp [hc]
theorem decNat_eq (l : List UInt8) : Lib.decNat l = if l ≠ [] ∧ l.all digit = true then some (valFrom 0 l) else none := by
 unfold Lib.decNat
 cases l with
 | nil => rfl
 | cons c r => rw [decFrom_eq]; simp

theorem numDs_eq (neg : Bool) (ds : List UInt8) (h : ds.length ≤ 18) : numDs neg ds = (Lib.decNat ds).bind fun m => if Lib.decDigits m = ds ∧ ¬ (neg = true ∧ m = 0) then some (if neg then -(m : Int) else m) else none := by
 rw [decNat_eq]
 unfold numDs
 by_cases hq : ds ≠ [] ∧ ds.all digit = true
 ·obtain ⟨h0, ha⟩ := hq
  have hd : (if ds ≠ [] ∧ ds.all digit = true then some (valFrom 0 ds) else none) = some (valFrom 0 ds) := if_pos ⟨h0, ha⟩
  rw [hd, Option.bind_some]
  have hb := decDigits_back h0 ha
  have hl : ds.length ≠ 0 := fun e => h0 (List.eq_nil_of_length_eq_zero e)
  by_cases hz : ds.head? = some 48
  ·by_cases hl1 : 1 < ds.length
   ·rw [if_pos (.inr (.inr (.inl ⟨hz, .inr hl1⟩))), if_neg (fun hh => (hb.1 hh.1) ⟨hz, hl1⟩)]
   ·have e : ds = [48] := by
     cases ds with
     | nil => exact absurd rfl h0
     | cons c r =>
      have : r = [] := List.eq_nil_of_length_eq_zero (by rw [List.length_cons] at hl1; omega)
      subst this
      simp at hz
      rw [hz]
    subst e
    have hv : valFrom 0 [48] = 0 := by rw [valFrom_cons, valFrom_nil]; rfl
    have hw : Lib.decDigits 0 = [48] := by rw [Lib.decDigits_one (by decide)]; rfl
    cases neg
    ·rw [hv]
     have hc : Lib.decDigits 0 = [48] ∧ ¬ (false = true ∧ (0 : Nat) = 0) := ⟨hw, by simp⟩
     exact (if_neg (by decide)).trans (if_pos hc).symm
    ·rw [hv]
     have hc : ¬ (Lib.decDigits 0 = [48] ∧ ¬ (true = true ∧ (0 : Nat) = 0)) := by simp
     exact (if_pos (.inr (.inr (.inl ⟨rfl, .inl rfl⟩)))).trans (if_neg hc).symm
  ·have hm : valFrom 0 ds ≠ 0 := by
    intro e
    have h1 := hb.2 (fun h => hz h.1)
    rw [e, Lib.decDigits_one (by decide)] at h1
    exact hz (by rw [← h1]; rfl)
   have hc0 : ¬ (ds.length = 0 ∨ 18 < ds.length ∨ (ds.head? = some 48 ∧ (neg = true ∨ 1 < ds.length)) ∨ ds.all digit = false) := by rw [ha]; simp [hl, hz]; omega
   have hc1 : Lib.decDigits (valFrom 0 ds) = ds ∧ ¬ (neg = true ∧ valFrom 0 ds = 0) := ⟨hb.2 (fun h => hz h.1), fun h => hm h.2⟩
   exact (if_neg hc0).trans (if_pos hc1).symm
 ·have hd : (if ds ≠ [] ∧ ds.all digit = true then some (valFrom 0 ds) else none) = none := if_neg hq
  rw [hd]
  simp only [Option.bind_none, ite_eq_left_iff]
  intro hn
  exfalso
  apply hn
  by_cases h0 : ds = []
  ·subst h0; exact .inl rfl
  ·refine .inr (.inr (.inr ?_))
   cases h : ds.all digit
   ·rfl
   ·exact absurd ⟨h0, h⟩ hq

theorem itoa_eq (m : Nat) : Lib.itoa (m : Int) = Lib.decDigits m := by unfold Lib.itoa; rw [if_neg (by omega)]; simp
theorem itoa_neg' (m : Nat) (h : 0 < m) : Lib.itoa (-(m : Int)) = 45 :: Lib.decDigits m := by unfold Lib.itoa; rw [if_pos (by omega)]; simp
theorem decDigits_head (u : Nat) (c : UInt8) (hc : digit c = false) (r : List UInt8) : Lib.decDigits u ≠ c :: r := by
 intro e
 have := decDigits_digit u
 rw [e] at this
 simp [hc] at this

/-- ReadDecimal reads what the plain definition reads. -/
theorem readDec_eq (l : List UInt8) : readDec l = numB l := by
 unfold readDec numB
 rw [Lib.parseIntB_64]
 cases l with
 | nil => rfl
 | cons c r =>
  by_cases h45 : c = 45
  ·subst h45
   have ht : Lib.trimPrefix (45 :: r) [45] = r := by simp [Lib.trimPrefix, Lib.hasPrefix]
   rw [ht, List.head?_cons, if_pos rfl, List.tail_cons]
   by_cases hl : 18 < r.length
   ·rw [if_pos hl]
    unfold numDs
    rw [if_pos (.inr (.inl hl))]
   ·rw [if_neg hl, Lib.atoiAll_minus, Lib.signed_short (by omega), numDs_eq true r (by omega)]
    cases hd : Lib.decNat r with
    | none => rfl
    | some m =>
     simp only [Option.map_some, Lib.NumEnd.ofOption, Option.bind_some, if_true]
     by_cases h0 : m = 0
     ·subst h0
      have e : Lib.itoa (-((0 : Nat) : Int)) ≠ 45 :: r := by
       have e1 : Lib.itoa (-((0 : Nat) : Int)) = [48] := by
        rw [show (-((0 : Nat) : Int)) = ((0 : Nat) : Int) from rfl, itoa_eq, Lib.decDigits_one (by decide)]; rfl
       rw [e1]
       intro h
       have := (List.cons.inj h).1
       revert this
       decide
      rw [if_neg e, if_neg (by simp)]
     ·rw [itoa_neg' m (by omega)]
      simp [h0]
  ·have ht : Lib.trimPrefix (c :: r) [45] = c :: r := by
    have : ([45] : List UInt8).isPrefixOf (c :: r) = false := by
     show ((45 : UInt8) == c && ([] : List UInt8).isPrefixOf r) = false
     rw [beq_eq_false_iff_ne.2 (fun e => h45 e.symm), Bool.false_and]
    unfold Lib.trimPrefix Lib.hasPrefix
    rw [this]
    rfl
   have hc : ¬ (some c = some (45 : UInt8)) := fun e => h45 (Option.some.inj e)
   rw [ht, List.head?_cons, show (if some c = some (45 : UInt8) then numDs true (c :: r).tail else numDs false (c :: r)) = numDs false (c :: r) from if_neg hc]
   by_cases hl : 18 < (c :: r).length
   ·rw [if_pos hl]
    unfold numDs
    rw [if_pos (.inr (.inl hl))]
   ·rw [if_neg hl, numDs_eq false _ (by omega)]
    by_cases h43 : c = 43
    ·subst h43
     have h1 : Lib.decNat (43 :: r) = none := by rw [decNat_eq, if_neg (by simp [digit])]
     rw [h1, Lib.atoiAll_plus, Lib.signless_short (by simp at hl; omega)]
     cases hd : Lib.decNat r with
     | none => rfl
     | some m =>
      simp only [Option.map_some, Lib.NumEnd.ofOption, Option.bind_none]
      rw [itoa_eq, if_neg (decDigits_head m 43 (by decide) r)]
    ·rw [Lib.atoiAll_plain c r (fun e => h43 (UInt8.toNat_inj.1 e)) (fun e => h45 (UInt8.toNat_inj.1 e)), Lib.signless_short (by omega)]
     cases hd : Lib.decNat (c :: r) with
     | none => rfl
     | some m =>
      simp only [Option.map_some, Lib.NumEnd.ofOption, Option.bind_some]
      rw [itoa_eq]
      simp

end Go.Proofs.YtjoacldbgnphkaaGreatDoor
