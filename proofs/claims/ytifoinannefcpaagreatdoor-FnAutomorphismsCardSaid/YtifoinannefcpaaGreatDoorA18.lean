/-
  The program's single and rounds.
  The program's last, strong and StrongClasses.
  A map whose keys lead to values, in the order in which they came.
  A map whose keys lead to values: a key is stored again with the value that it has.
  The program's refines, IsPartition, partitionsCode and RefinesPartition: of partitions in normal form, the first of which refines the second.
-/
import Derived.Test.YtifoinannefcpaaGreatDoorA17
import Derived.Test.YtifoinannefcpaaGreatDoorA15
import Derived.Test.YtifoinannefcpaaGreatDoorA9
import Derived.Test.YtifoinannefcpaaGreatDoorA13
import Derived.Test.YtifoinannefcpaaGreatDoorA14
namespace Go.Proofs.YtifoinannefcpaaGreatDoor
open Go Go.RowKit


set_option maxRecDepth 100000 in
set_option maxHeartbeats 1000000 in
theorem single_any (S : Nat) (t : Lts) (w : World) (hS : t.states.toNat = S) (hS40 : S ≤ 40) : Calls Tryz.prog 71 #[.int .i64 S] w (MadeNums (lev t 0) w) := by
 obtain ⟨i1, hi1, hz10, hz11, hz12⟩ := info_parts info_int64N
 go_enter Tryz.func71, Tryz.ntmps71
 go_wp2_with (at_make; refine wpList_make_full _ rfl _ _ 32 rfl w.heap.size 2 i1 _ 1 Tryz.underlying32 hi1 hz10 hz11 .i64 .i64 _ _ S rfl rfl rfl rfl ?_ ?_ ?_ ?_)
 ·rw [hz12]; omega
 ·simp [maxLen]; omega
 ·exact Nat.le_refl _
 intro w1 ho hg
 rw [toList_madeCells_one] at ho
 have HR : Hid (MadeNums (lev t 0) w (.returned (.slice (some ⟨w.heap.size, 0, none⟩) S S)) w1) := by
  refine ⟨_, rfl, (Below.refl _ _).grown hg (Nat.le_refl _) (fun _ h => by cases h), ?_⟩
  rw [lev_zero, hS, List.length_replicate, List.map_replicate]
  simpa using ho
 clear ho hg
 go_wp2
 go_ret
 exact HR.out

set_option maxRecDepth 100000 in
set_option maxHeartbeats 4000000 in
theorem rounds_any (lo S : Nat) (t : Lts) (lv ev : Value) (w : World) (hv : Valid t) (hS : (S : Int) = t.states) (he : SliceK 3 encE lo w ev t.edges) :
  Calls Tryz.prog 54 #[.int .i64 S, .func (.func 55) #[.agg #[.int .i64 t.states, .int .i64 t.initial, lv, ev]] #[]] w (MadeIntss (levs t) w) := by
 have HV := Lib.hid hv
 have hs0 := hv.st0
 have hs1 := hv.st1
 have hS40 : S ≤ 40 := by omega
 have hS1 : 1 ≤ S := by omega
 have hSN : t.states.toNat = S := by omega
 have HSN := Lib.hid hSN
 obtain ⟨hlast, hst, hch⟩ := last_ok hv
 rw [hSN] at hlast
 have HST := Lib.hid hst
 have HCH := Lib.hid hch
 have HNX : Hid (∀ (k : Nat) (lo2 : Nat) (pv : Value) (w' : World), Below w.heap.size w w' → SliceK 1 encI lo2 w' pv (lev t k) → Calls Tryz.prog 55 #[.agg #[.int .i64 t.states, .int .i64 t.initial, lv, ev], pv] w' (MadeNums (lev t (k + 1)) w')) := fun k lo2 pv w' hb hpv => by
  have h := refine_any lo lo2 S t (lev t k) lv ev pv w' hv hS (lev_in hv k) (he.below hb) hpv
  have e := lev_imp hv k
  rw [hSN] at e
  rw [e] at h
  exact h
 have HSG := Lib.hid (single_any S t w hSN hS40)
 obtain ⟨i2, hi2, hz20, hz21, hz22⟩ := info_parts info_sliceL
 clear hv hS hs0 hs1 hst hch he
 go_enter Tryz.func54, Tryz.ntmps54
 go_wp2_with fail
 refine Calls.mono HSG.out ?_
 rintro e w1 ⟨v1, rfl, hb1, ho1⟩
 have hl0 : (lev t 0).length = S := by rw [lev_len]; exact hSN
 have hsz1 : w.heap.size ≤ w1.heap.size := hb1.size
 obtain ⟨ga, gc, rfl, -, -⟩ := owns_slice ho1
 obtain ⟨w2, hw2⟩ : ∃ w2, w2 = w1.alloc (.cells #[.slice ga (lev t 0).length gc] 32) := ⟨_, rfl⟩
 have hal : Below w1.heap.size w1 w2 := by rw [hw2]; exact (Below.refl _ _).alloc (Nat.le_refl _) _
 have HO : Hid (OwnIntss 32 2 w.heap.size w2 (.slice (some ⟨w1.heap.size, 0, none⟩) 1 1) [.slice ga (lev t 0).length gc] [lev t 0]) := by
  have h2 := World.ownsRow_lit (base := w.heap.size) (size := 1) w1 #[.slice ga (lev t 0).length gc] (e := 32) 1 hsz1 (by simp [maxLen]) rfl
  rw [← hw2] at h2
  exact owns_one h2 (owns_below ho1 hal)
 have HB2 : Hid (Below w.heap.size w w2) := hb1.trans (hal.mono hsz1)
 have HW2 := Lib.hid hw2
 clear ho1 hb1 hw2 hal HSG hl0
 go_wp2_with fail
 rw [← HW2.out]
 go_loopw [5] (fun v5 wr => ∃ (k : Nat) (g c : Nat) (vs : List Value), k ≤ lastR t ∧ v5 = .slice (some ⟨g, 0, none⟩) (k + 1) c ∧ Below w.heap.size w wr ∧ OwnIntss 32 2 w.heap.size wr (.slice (some ⟨g, 0, none⟩) (k + 1) c) vs ((List.range (k + 1)).map (lev t))) (fun v5 _ => S - (match v5 with | .slice _ n _ => n | _ => 0))
 case atStart => exact ⟨0, w1.heap.size, 1, _, Nat.zero_le _, rfl, HB2.out, HO.out⟩
 case round =>
  clear HO HB2 HW2
  obtain ⟨k, g, c, vs, hk, rfl, hbl, ho⟩ := hrel
  obtain ⟨wC, rfl⟩ : ∃ wC : World, wC = wr := ⟨_, rfl⟩
  have hvl : vs.length = k + 1 := by have := ho.1; simpa using this
  have hkl : k < vs.length := by omega
  have hrow0 := ho.2.2.1 k hkl (by simp)
  have hrow : wC.ownsRow w.heap.size 2 1 vs[k] (lev t k).length ((lev t k).map (Value.int .i64)) := by simpa using hrow0
  have hh := ho.2.1
  rw [hvl] at hh
  have z0 := hh.cellAt k (by omega)
  rw [List.getElem?_eq_getElem hkl] at z0
  obtain ⟨rv, hrv⟩ : ∃ rv, rv = vs[k] := ⟨_, rfl⟩
  rw [← hrv] at z0 hrow
  obtain ⟨pa, pc, rfl, -, -⟩ := owns_slice hrow
  have hlk : (lev t k).length = S := by rw [lev_len]; exact hSN
  have hsl : SliceK 1 encI w.heap.size wC (.slice pa (lev t k).length pc) (lev t k) := SliceK.of_owns (enc := encI) (e := 2) encI_len rfl (by rw [flat_encI]; exact hrow)
  have hk40 : k < 40 := by omega
  have HB := Lib.hid hbl
  have HO := Lib.hid ho
  have HSL := Lib.hid hsl
  have HN := Lib.hid (HNX.out k _ _ wC hbl hsl)
  have hszC := hbl.size
  have HVL := Lib.hid hvl
  have HLK := Lib.hid hlk
  clear hbl ho hsl hvl hkl hrow0 hrow hh hrv hlk
  go_wp2_with fail
  refine Calls.mono HN.out ?_
  rintro e wD ⟨qv, rfl, hb, hq⟩
  have hq1 : (lev t (k + 1)).length = S := by rw [lev_len]; exact hSN
  obtain ⟨qa, qc, rfl, -, -⟩ := owns_slice hq
  have HBD := Lib.hid hb
  have HQ := Lib.hid hq
  have hszD := hb.size
  have hsq : SliceK 1 encI wC.heap.size wD (.slice qa (lev t (k + 1)).length qc) (lev t (k + 1)) := SliceK.of_owns (enc := encI) (e := 2) encI_len rfl (by rw [flat_encI]; exact hq)
  have HSM := Lib.hid (EqualI_any w.heap.size wC.heap.size _ _ _ _ wD (HSL.out.below hb) hsq (fun e => by have := HLK.out; rw [e] at this; simp at this; omega) (fun e => by rw [e] at hq1; simp at hq1; omega))
  have HLQ := Lib.hid hq1
  clear hb hq hsq HN hq1
  go_wp2_with fail
  refine Calls.mono HSM.out ?_
  rintro e wE ⟨rfl, hb⟩
  have hbE : Below wC.heap.size wC wE := HBD.out.trans (hb.mono hszD)
  have HBE := Lib.hid hbE
  have HQE := Lib.hid (owns_below HQ.out hb)
  have HBW : Hid (Below w.heap.size w wE) := HB.out.trans (hbE.mono hszC)
  have hszE : wC.heap.size ≤ wE.heap.size := hbE.size
  clear hb hbE HSM HQ HBD
  by_cases hkl : k = lastR t
  ·have he : (lev t k == lev t (k + 1)) = true := by rw [beq_iff_eq, hkl]; exact HST.out
   have HKL := Lib.hid hkl
   have HOE := Lib.hid (HO.out.below HBE.out)
   clear hkl
   rw [he]
   go_wp2
   go_ret
   refine ⟨_, vs, rfl, HBW.out, ?_⟩
   have := HOE.out
   unfold levs
   rw [← HKL.out]
   exact this
  ·have he : (lev t k == lev t (k + 1)) = false := by
    rw [beq_eq_false_iff_ne]
    exact fun h => HCH.out k (by omega) h
   rw [he]
   have HOE := Lib.hid (HO.out.below HBE.out)
   have hor : wE.ownsRow w.heap.size 32 1 (.slice (some ⟨g, 0, none⟩) (k + 1) c) (k + 1) vs := by
    have := HOE.out.2.1
    rw [HVL.out] at this
    exact this
   have HOR := Lib.hid hor
   have hk1 : k + 1 ≤ lastR t := by omega
   clear hor hkl
   go_wp2_with (at_builtin; refine wpList_append_lies _ rfl _ _ 29 rfl w.heap.size 32 i2 (.slice none 0 0) 1 24 Tryz.underlying29 hi2 hz20 hz21 hz22 rfl (by decide) _ _ _ rfl (HOR.out.alloc _) ⟨wE.heap.size, 0, none⟩ 1 1 [.slice qa (lev t (k + 1)).length qc] rfl rfl ?c1 ?c2 ?c3 ?c4 ?c5 ?c6 _ rfl ?_)
   case c1 => exact World.news_of_block (cs := #[.slice qa (lev t (k + 1)).length qc]) (t := 32) (fr := (0, 0)) (heap_alloc_new _ _)
   case c2 => intro u hu; simp at hu; subst hu; rfl
   case c3 => omega
   case c4 => simp [maxLen]; omega
   case c5 => omega
   case c6 => simp; omega
   intro g3 cap3 w3 ho3 hg3 hat3 hlt3
   have hal : Below wE.heap.size wE (wE.alloc (.cells #[.slice qa (lev t (k + 1)).length qc] 32)) := (Below.refl _ _).alloc (Nat.le_refl _) _
   have HO3 : Hid (OwnIntss 32 2 w.heap.size w3 (.slice (some ⟨g3, 0, none⟩) (k + 1 + 1) cap3) (vs ++ [.slice qa (lev t (k + 1)).length qc]) ((List.range (k + 1 + 1)).map (lev t))) := by
    unfold Hid
    rw [levs_take]
    refine OwnIntss.push (B := wC.heap.size) (xs := lev t (k + 1)) (by decide) HO.out (Nat.le_refl _) (HBE.out.trans (hal.mono hszE)) (owns_below HQE.out hal) hszC hg3 ?_
    rw [HVL.out]
    exact ho3
   have HB3 : Hid (Below w.heap.size w w3) := (HBW.out.trans (hal.mono (by omega))).grown hg3 (by simp; omega) (fun b e => by cases e; exact (HOR.out.lt g rfl).1)
   clear ho3 hg3 hat3 hlt3 hal HOR HOE HO HQE
   go_wp2
   go_roundw
   case rel => exact ⟨k + 1, g3, cap3, _, hk1, rfl, HB3.out, HO3.out⟩
   case measure => simp; omega

end Go.Proofs.YtifoinannefcpaaGreatDoor

namespace Go.Proofs.YtifoinannefcpaaGreatDoor
open Go Go.RowKit


theorem lastI_any (g M c : Nat) (u : Value) (w : World) (hm : 0 < M) (hM : M ≤ 1000) (hc : w.cell? ⟨g, M - 1, none⟩ = some u) :
  Calls Tryz.prog 53 #[.slice (some ⟨g, 0, none⟩) M c] w fun e w' => e = .returned u ∧ w = w' := by
 obtain ⟨m, hmm⟩ : ∃ m : Nat, m = M - 1 := ⟨_, rfl⟩
 have hki : (M : Int) - 1 = (m : Int) := by omega
 rw [← hmm] at hc
 have hmM : m < M := by omega
 clear hmm
 go_enter Tryz.func53, Tryz.ntmps53
 go_wp2
 go_ret
 exact ⟨rfl, rfl⟩

set_option maxRecDepth 100000 in
set_option maxHeartbeats 4000000 in
theorem strong_any (lo S : Nat) (t : Lts) (lv ev : Value) (w : World) (hv : Valid t) (hS : (S : Int) = t.states) (hl : SliceK 1 encS lo w lv t.labels) (he : SliceK 3 encE lo w ev t.edges) :
  Calls Tryz.prog 27 #[.agg #[.int .i64 t.states, .int .i64 t.initial, lv, ev]] w (MadeNums (lev t (lastR t)) w) := by
 obtain ⟨tb, htb⟩ : ∃ tb, tb = w.heap.size := ⟨_, rfl⟩
 obtain ⟨W, hW⟩ : ∃ W, W = w.alloc (.cells #[.int .i64 S, .int .i64 t.initial, lv, ev] 27) := ⟨_, rfl⟩
 have hbW : Below w.heap.size w W := by rw [hW]; exact (Below.refl _ _).alloc (Nat.le_refl _) _
 have hT : Blk W tb [.int .i64 S, .int .i64 t.initial, lv, ev] 27 := by rw [hW, htb]; exact Blk.new w _ _
 have hrd := rounds_any lo S t lv ev W hv hS (he.below hbW)
 rw [← hS] at hrd
 have HRD := Lib.hid hrd
 have hlast := (last_ok hv).1
 have hst1 := hv.st1
 have hR : lastR t < 40 := by omega
 have HB := Lib.hid hbW
 have HW := Lib.hid hW
 have HTB := Lib.hid htb
 have x0 := hT.cell 0 rfl
 have x1 := hT.cell 1 rfl
 have x2 := hT.cell 2 rfl
 have x3 := hT.cell 3 rfl
 obtain ⟨al, cl, rfl, -, -, -⟩ := hl
 obtain ⟨ae, ce, rfl, -, -, -⟩ := he
 rw [← hS]
 clear hv hbW hT hW htb hS hrd hlast hst1
 go_enter Tryz.func27, Tryz.ntmps27
 go_wp2_with fail
 rw [← HW.out, ← HTB.out]
 refine Calls.mono HRD.out ?_
 rintro e w2 ⟨v2, vs, rfl, hb2, ho2⟩
 have hvl : vs.length = lastR t + 1 := by have := ho2.1; rwa [levs_len] at this
 have hh : w2.ownsRow W.heap.size 32 1 v2 vs.length vs := ho2.2.1
 obtain ⟨g, c, rfl, -, -⟩ := hh.form (by omega)
 have z0 := hh.cellAt (lastR t) (by omega)
 have hkl : lastR t < vs.length := by omega
 rw [List.getElem?_eq_getElem hkl] at z0
 have hrow0 := ho2.2.2.1 (lastR t) hkl (by rw [levs_len]; omega)
 have e0 : (levs t)[lastR t]'(by rw [levs_len]; omega) = lev t (lastR t) := by
  have h := levs_get (t := t) (k := lastR t) (by omega)
  rw [List.getElem?_eq_getElem (by rw [levs_len]; omega)] at h
  exact Option.some.inj h
 rw [e0] at hrow0
 obtain ⟨rv, hrv⟩ : ∃ rv, rv = vs[lastR t] := ⟨_, rfl⟩
 rw [← hrv] at z0 hrow0
 obtain ⟨pa, pc, rfl, -, -⟩ := owns_slice hrow0
 have HLA := Lib.hid (lastI_any g vs.length c _ w2 (by omega) (by omega) (by rw [hvl]; exact z0))
 have HR : Hid (MadeNums (lev t (lastR t)) w (.returned (.slice pa (lev t (lastR t)).length pc)) w2) := ⟨_, rfl, HB.out.trans (hb2.mono HB.out.size), own_lower hrow0 HB.out.size⟩
 clear hb2 ho2 hvl hh z0 hkl hrow0 e0 hrv HRD x0 x1 x2 x3
 go_wp2_with fail
 refine Calls.mono HLA.out ?_
 rintro e w3 ⟨rfl, rfl⟩
 go_wp2
 go_ret
 exact HR.out

/-- What StrongClasses hands back. -/
def RetStr (n : Nat) (t : Lts) (w : World) (e : Ending) (w' : World) : Prop :=
 ∃ a c, e = .returned (.tuple #[.slice a n c, .int .i64 0]) ∧ Below w.heap.size w w' ∧ w'.ownsRow w.heap.size 2 1 (.slice a n c) n ((lev t (lastR t)).map (Value.int .i64))
set_option maxRecDepth 100000 in
set_option maxHeartbeats 4000000 in
theorem StrongClasses_any (lo S : Nat) (t : Lts) (lv ev : Value) (w : World) (hv : Valid t) (hS : (S : Int) = t.states) (hsh : Short20 t.labels) (hl : SliceK 1 encS lo w lv t.labels) (he : SliceK 3 encE lo w ev t.edges) (g : Glob w) :
  Calls Tryz.prog 11 #[.agg #[.int .i64 t.states, .int .i64 t.initial, lv, ev]] w (RetStr S t w) := by
 obtain ⟨tb, htb⟩ : ∃ tb, tb = w.heap.size := ⟨_, rfl⟩
 obtain ⟨W, hW⟩ : ∃ W, W = w.alloc (.cells #[.int .i64 t.states, .int .i64 t.initial, lv, ev] 27) := ⟨_, rfl⟩
 have hbW : Below w.heap.size w W := by rw [hW]; exact (Below.refl _ _).alloc (Nat.le_refl _) _
 have hT : Blk W tb [.int .i64 t.states, .int .i64 t.initial, lv, ev] 27 := by rw [hW, htb]; exact Blk.new w _ _
 have HVA := Lib.hid (Decides.yes (ValidLts_any lo t lv ev W hsh (hl.below hbW) (he.below hbW) (g.below hbW)) hv)
 have HSC : Hid (∀ w', Below W.heap.size W w' → Calls Tryz.prog 27 #[.agg #[.int .i64 t.states, .int .i64 t.initial, lv, ev]] w' (MadeNums (lev t (lastR t)) w')) := fun w' hb => strong_any lo S t lv ev w' hv hS ((hl.below hbW).below hb) ((he.below hbW).below hb)
 have HLN : Hid ((lev t (lastR t)).length = S) := by unfold Hid; rw [lev_len]; omega
 have HB := Lib.hid hbW
 have HW := Lib.hid hW
 have HTB := Lib.hid htb
 have HT := Lib.hid hT
 have x0 := hT.cell 0 rfl
 have x1 := hT.cell 1 rfl
 have x2 := hT.cell 2 rfl
 have x3 := hT.cell 3 rfl
 obtain ⟨al, cl, rfl, -, -, -⟩ := hl
 obtain ⟨ae, ce, rfl, -, -, -⟩ := he
 clear hv hbW hT hW htb hS hsh g
 go_enter Tryz.func11, Tryz.ntmps11
 go_wp2_with fail
 rw [← HW.out, ← HTB.out]
 refine Calls.mono HVA.out ?_
 rintro e w1 ⟨rfl, hb1⟩
 have HB1 := Lib.hid hb1
 have HS1 := Lib.hid (HSC.out w1 hb1)
 have hT1 := HT.out.below hb1
 clear x0 x1 x2 x3
 have x0 := hT1.cell 0 rfl
 have x1 := hT1.cell 1 rfl
 have x2 := hT1.cell 2 rfl
 have x3 := hT1.cell 3 rfl
 clear hb1 HVA HSC hT1
 go_wp2_with fail
 refine Calls.mono HS1.out ?_
 rintro e w2 ⟨v2, rfl, hb2, ho2⟩
 rw [HLN.out] at ho2
 obtain ⟨pa, pc, rfl, -, -⟩ := owns_slice ho2
 have hs1 : W.heap.size ≤ w1.heap.size := HB1.out.size
 have HR : Hid (RetStr S t w (.returned (.tuple #[.slice pa S pc, .int .i64 0])) w2) :=
  ⟨pa, pc, rfl, HB.out.trans ((HB1.out.trans (hb2.mono hs1)).mono HB.out.size), own_lower ho2 (Nat.le_trans HB.out.size hs1)⟩
 clear hb2 ho2 HS1 x0 x1 x2 x3
 go_wp2
 refine bodyPost_ret (results_tmp2 rfl _ _ _) rfl ?_
 exact HR.out

end Go.Proofs.YtifoinannefcpaaGreatDoor

namespace Go.Proofs.YtifoinannefcpaaGreatDoor
open Go Go.RowKit Go.ChangeMaps Go.MapKept
open Go.Maps (Keyed)

def entV (ks : List (Value × Value)) : Array MapEntry := (ks.mapIdx fun i k => (⟨k.1, k.2, i⟩ : MapEntry)).toArray
/-- The block of a map whose keys lead to values. -/
def ValMap (w : World) (b : Nat) (ks : List (Value × Value)) : Prop := w.heap[b]? = some (.map (entV ks) ks.length)
theorem ValMap.made (w : World) : ValMap (w.alloc (.map #[] 0)) w.heap.size [] := (MapKept.heap_alloc w _).1
theorem ValMap.lt {w : World} {b : Nat} {ks : List (Value × Value)} (h : ValMap w b ks) : b < w.heap.size := (Array.getElem?_eq_some_iff.1 h).1
theorem ValMap.kept {w w' : World} {b : Nat} {ks : List (Value × Value)} {row : Option Nat} (h : ValMap w b ks) (hg : w.grownBy w' row) (hne : some b ≠ row) : ValMap w' b ks := (hg.block b h.lt hne).trans h
theorem ValMap.below {w w' : World} {b : Nat} {ks : List (Value × Value)} (h : ValMap w b ks) (hb : Below w.heap.size w w') : ValMap w' b ks := (hb.block b h.lt).trans h
theorem entV_key {ks : List (Value × Value)} {e : MapEntry} (h : e ∈ (entV ks).toList) : ∃ i, ∃ hi : i < ks.length, e = ⟨ks[i].1, ks[i].2, i⟩ := by
 unfold entV at h
 simp only [List.mem_mapIdx] at h
 obtain ⟨i, hi, rfl⟩ := h
 exact ⟨i, hi, rfl⟩
theorem entV_mem {ks : List (Value × Value)} {e : MapEntry} (h : e ∈ (entV ks).toList) : e.key ∈ ks.map Prod.fst := by
 obtain ⟨i, hi, rfl⟩ := entV_key h
 exact List.mem_map.2 ⟨_, List.getElem_mem hi, rfl⟩
theorem entV_push (ks : List (Value × Value)) (key v : Value) : entV (ks ++ [(key, v)]) = (entV ks).push ⟨key, v, ks.length⟩ := by
 unfold entV
 rw [List.mapIdx_append]
 simp

section
variable {P : Program} {k t e : TypeId} {w : World} {b : Nat} {ks : List (Value × Value)}

theorem ValMap.found (h : ValMap w b ks) (K : Keyed P k) (ht : P.underlying t = some (.map k e)) (hks : ∀ v ∈ ks.map Prod.fst, ∃ l, keyOf P k v = some l) (hd : (ks.map Prod.fst).Nodup) {i : Nat} (hi : i < ks.length) :
  (Instr.lookup t (.map (some b)) ks[i].1 true).run P w = .ok (.tuple #[ks[i].2, .bool true]) w := by
 obtain ⟨kl, hkey⟩ := hks _ (List.mem_map.2 ⟨_, List.getElem_mem hi, rfl⟩)
 rcases K.find w hkey (entV ks).toList (fun x hx => hks _ (entV_mem hx)) with ⟨_, h2⟩ | ⟨j, e0, h1, h2, h3⟩
 ·exfalso
  refine h2 ⟨ks[i].1, ks[i].2, i⟩ ?_ rfl
  unfold entV
  simp only [List.mem_mapIdx]
  exact ⟨i, hi, rfl⟩
 ·unfold entV at h2
  simp only [List.getElem?_mapIdx, Option.map_eq_some_iff] at h2
  obtain ⟨k', hk', rfl⟩ := h2
  obtain ⟨hj, hk'⟩ := List.getElem?_eq_some_iff.1 hk'
  simp only at h3
  have e1 : j = i := by
   refine nodup_get hd (by simpa using hj) (by simpa using hi) ?_
   rw [List.getElem_map, List.getElem_map, hk']
   exact h3
  subst e1
  have hb : w.heap[b]? = some (.map (entV ks) ks.length) := h
  simp only at h1
  rw [← hk'] at h1
  simp [Instr.lookup, run_underlying ht, MapKept.run_getObj_map hb, K.check w _ hkey, h1, Result.andThen]

theorem ValMap.missing (h : ValMap w b ks) (K : Keyed P k) (ht : P.underlying t = some (.map k e)) (hks : ∀ v ∈ ks.map Prod.fst, ∃ l, keyOf P k v = some l) {z : Value} (hz : (zeroValue e).run P w = .ok z w) {key : Value} {kl : Lit} (hkey : keyOf P k key = some kl) (hn : key ∉ ks.map Prod.fst) :
  (Instr.lookup t (.map (some b)) key true).run P w = .ok (.tuple #[z, .bool false]) w := by
 rcases K.find w hkey (entV ks).toList (fun x hx => hks _ (entV_mem hx)) with ⟨h1, _⟩ | ⟨j, e0, _, h2, h3⟩
 ·have hb : w.heap[b]? = some (.map (entV ks) ks.length) := h
  simp [Instr.lookup, run_underlying ht, MapKept.run_getObj_map hb, K.check w _ hkey, h1, hz, Result.andThen]
 ·exact absurd (h3 ▸ entV_mem (List.mem_of_getElem? h2)) hn

theorem ValMap.store (h : ValMap w b ks) (K : Keyed P k) (ht : P.underlying t = some (.map k e)) (hks : ∀ v ∈ ks.map Prod.fst, ∃ l, keyOf P k v = some l) {key : Value} {kl : Lit} (hkey : keyOf P k key = some kl) (hn : key ∉ ks.map Prod.fst) (hroom : ks.length < maxLen) (v : Value) :
  ∃ w', (Instr.mapUpdate t (.map (some b)) key v).run P w = .ok () w' ∧ ValMap w' b (ks ++ [(key, v)]) ∧ w.grownBy w' (some b) := by
 have hb : w.heap[b]? = some (.map (entV ks) ks.length) := h
 rcases K.find w hkey (entV ks).toList (fun x hx => hks _ (entV_mem hx)) with ⟨h1, _⟩ | ⟨j, e0, _, h2, h3⟩
 ·refine ⟨setBlock w b (.map ((entV ks).push ⟨key, v, ks.length⟩) (ks.length + 1)), ?_, ?_, ?_⟩
  ·have hr : ks.length < 9223372036854775807 := hroom
   simp [Instr.mapUpdate, run_underlying ht, MapKept.run_getObj_map hb, K.check w false hkey, h1, MapKept.run_setObj_map _ hb, Result.andThen, setBlock]
  ·unfold ValMap
   rw [entV_push, List.length_append, List.length_singleton]
   exact heap_setBlock_same hb _
  ·exact ⟨rfl, rfl, rfl, by simp [setBlock], fun i _ hi => heap_setBlock_other hb _ (fun e => hi (by rw [e]))⟩
 ·exact absurd (h3 ▸ entV_mem (List.mem_of_getElem? h2)) hn

end
end Go.Proofs.YtifoinannefcpaaGreatDoor

namespace Go.Proofs.YtifoinannefcpaaGreatDoor
open Go Go.RowKit Go.ChangeMaps Go.MapKept
open Go.Maps (Keyed)

section
variable {P : Program} {k t e : TypeId} {w : World} {b : Nat} {ks : List (Value × Value)}

theorem modify_same {es : Array MapEntry} {j : Nat} {e0 : MapEntry} (h : es[j]? = some e0) {f : MapEntry → MapEntry} (hf : f e0 = e0) : es.modify j f = es := by
 apply Array.ext_getElem?
 intro i
 rw [Array.getElem?_modify]
 split
 ·next e => subst e; rw [h]; simp [hf]
 ·rfl
theorem ValMap.again (h : ValMap w b ks) (K : Keyed P k) (ht : P.underlying t = some (.map k e)) (hks : ∀ v ∈ ks.map Prod.fst, ∃ l, keyOf P k v = some l) (hd : (ks.map Prod.fst).Nodup) {i : Nat} (hi : i < ks.length) :
  ∃ w', (Instr.mapUpdate t (.map (some b)) ks[i].1 ks[i].2).run P w = .ok () w' ∧ ValMap w' b ks ∧ w.grownBy w' (some b) := by
 have hb : w.heap[b]? = some (.map (entV ks) ks.length) := h
 obtain ⟨kl, hkey⟩ := hks _ (List.mem_map.2 ⟨_, List.getElem_mem hi, rfl⟩)
 rcases K.find w hkey (entV ks).toList (fun x hx => hks _ (entV_mem hx)) with ⟨_, h2⟩ | ⟨j, e0, h1, h2, h3⟩
 ·exfalso
  refine h2 ⟨ks[i].1, ks[i].2, i⟩ ?_ rfl
  unfold entV
  simp only [List.mem_mapIdx]
  exact ⟨i, hi, rfl⟩
 ·have h2' := h2
  unfold entV at h2'
  simp only [List.getElem?_mapIdx, Option.map_eq_some_iff] at h2'
  obtain ⟨k', hk', he0⟩ := h2'
  obtain ⟨hj, hk'⟩ := List.getElem?_eq_some_iff.1 hk'
  have e1 : j = i := by
   refine nodup_get hd (by simpa using hj) (by simpa using hi) ?_
   rw [List.getElem_map, List.getElem_map, hk', ← h3, ← he0]
  subst e1
  have hjj : (entV ks)[j]? = some e0 := by simpa using h2
  have hv : e0.val = ks[j].2 := by rw [← he0, hk']
  have hs : (entV ks).modify j (fun e' => { e' with key := ks[j].1, val := ks[j].2 }) = entV ks := modify_same hjj (by rw [← h3, ← hv])
  refine ⟨setBlock w b (.map ((entV ks).modify j (fun e' => { e' with key := ks[j].1, val := ks[j].2 })) ks.length), ?_, ?_, ?_⟩
  ·simp [Instr.mapUpdate, run_underlying ht, MapKept.run_getObj_map hb, K.check w false hkey, h1, hjj, h3, K.stays w hkey, MapKept.run_setObj_map _ hb, Result.andThen, setBlock]
  ·unfold ValMap
   rw [hs]
   exact heap_setBlock_same hb _
  ·exact ⟨rfl, rfl, rfl, by simp [setBlock], fun i _ hi => heap_setBlock_other hb _ (fun e => hi (by rw [e]))⟩

end
end Go.Proofs.YtifoinannefcpaaGreatDoor

namespace Go.Proofs.YtifoinannefcpaaGreatDoor
open Go Go.RowKit
open Go.Maps (Keyed)


/-- Where a block leads to. -/
def qAt (p q : List Int) (b : Int) : Int := q.getD (fstIx p b) 0
theorem qAt_is {p q : List Int} (h : RefO p q) {i : Nat} (hi : i < p.length) : qAt p q p[i] = q.getD i 0 := by
 have hm : p[i] ∈ p := List.getElem_mem hi
 have hl := fstIx_lt hm
 have hg := fstIx_get hm
 rw [List.getElem?_eq_getElem hl] at hg
 exact h _ i hl hi (Option.some.inj hg)
def ofK (p q : List Int) (i : Nat) : List (Value × Value) := (firsts (p.take i)).map fun b => (.int .i64 b, .int .i64 (qAt p q b))
theorem ofK_keys (p q : List Int) (i : Nat) : (ofK p q i).map Prod.fst = keysI (firsts (p.take i)) := by
 unfold ofK keysI
 rw [List.map_map]
 rfl
theorem ofK_old {p q : List Int} {i : Nat} (hi : i < p.length) (h : p[i] ∈ firsts (p.take i)) : ofK p q (i + 1) = ofK p q i := by
 unfold ofK
 rw [List.take_succ_eq_append_getElem hi, firsts_snoc]
 unfold addNew
 rw [if_pos h]
theorem ofK_new {p q : List Int} {i : Nat} (hi : i < p.length) (h : p[i] ∉ firsts (p.take i)) : ofK p q (i + 1) = ofK p q i ++ [(.int .i64 p[i], .int .i64 (qAt p q p[i]))] := by
 unfold ofK
 rw [List.take_succ_eq_append_getElem hi, firsts_snoc]
 unfold addNew
 rw [if_neg h, List.map_append]
 rfl

set_option maxRecDepth 100000 in
set_option maxHeartbeats 4000000 in
theorem refines_any (lo lo2 : Nat) (pv qv : Value) (p q : List Int) (w : World) (hpl : p.length ≤ 1000) (hql : q.length = p.length) (h64 : ∀ x ∈ p, I64 x) (hr : RefO p q) (hp : SliceK 1 encI lo w pv p) (hq : SliceK 1 encI lo2 w qv q) :
  Calls Tryz.prog 29 #[pv, qv] w fun e w' => e = .returned (.bool true) ∧ Below w.heap.size w w' := by
 obtain ⟨pa, pc, rfl, hpn, hpc, hprow⟩ := hp
 obtain ⟨qa, qc, rfl, hqn, hqc, hqrow⟩ := hq
 rw [hql] at hqn ⊢
 have HPR := Lib.hid hprow
 have HQR := Lib.hid hqrow
 have H64 := Lib.hid h64
 have HRF := Lib.hid hr
 have HQL := Lib.hid hql
 obtain ⟨N, hN⟩ : ∃ N, N = p.length := ⟨_, rfl⟩
 rw [← hN] at hpl hpn hqn ⊢
 have HN := Lib.hid hN
 obtain ⟨mb, hmb⟩ : ∃ mb, mb = w.heap.size := ⟨_, rfl⟩
 have hMM : ValMap (w.alloc (.map #[] 0)) mb [] := by rw [hmb]; exact ValMap.made w
 have hbM : Below w.heap.size w (w.alloc (.map #[] 0)) := (Below.refl _ _).alloc (Nat.le_refl _) _
 have HMM := Lib.hid hMM
 have HBM := Lib.hid hbM
 have HMB := Lib.hid hmb
 have hmm := @run_makeMap Tryz.prog
 clear hprow hqrow h64 hr hql hN hMM hbM
 go_enter Tryz.func29, Tryz.ntmps29
 go_wp2_with fail
 rw [← hmb]
 clear hmm hmb
 go_loopw [13] (fun v13 wr => ∃ i : Nat, i ≤ N ∧ v13 = .int .i64 i ∧ Below w.heap.size w wr ∧ ValMap wr mb (ofK p q i)) (fun v13 _ => N - (intOf v13).toNat)
 case atStart => exact ⟨0, Nat.zero_le _, rfl, HBM.out, HMM.out⟩
 case round =>
  clear HMM HBM
  obtain ⟨i, hi, rfl, hbl, hmap⟩ := hrel
  obtain ⟨wC, rfl⟩ : ∃ wC : World, wC = wr := ⟨_, rfl⟩
  have HBL := Lib.hid hbl
  have hszC := hbl.size
  by_cases hlt : i < N
  ·have hip : i < p.length := by have := HN.out; omega
   have hiq : i < q.length := by have := HN.out; have := HQL.out; omega
   obtain ⟨pb, po, rfl, -, hpb, c1⟩ := (HPR.out.below hbl).one hip
   obtain ⟨qb, qo, rfl, -, hqb, d1⟩ := (HQR.out.below hbl).one hiq
   simp only [encI, List.getElem?_cons_zero] at c1 d1
   obtain ⟨b, hb⟩ : ∃ b, b = p[i] := ⟨_, rfl⟩
   obtain ⟨c, hc⟩ : ∃ c, c = q[i] := ⟨_, rfl⟩
   have hqb2 : qAt p q b = c := by rw [hb, qAt_is HRF.out hip, getD_eq hiq, hc]
   have hnew := ofK_new (q := q) hip
   have hold := ofK_old (q := q) hip
   rw [← hb] at c1 hnew hold
   rw [← hc] at d1
   rw [hqb2] at hnew
   have hk1 := ofK_keys p q i
   obtain ⟨D, hD⟩ : ∃ D, D = firsts (p.take i) := ⟨_, rfl⟩
   rw [← hD] at hk1 hnew hold
   have hDn : D.Nodup := by rw [hD]; exact firsts_nodup _
   have hDl : D.length ≤ 1000 := by
    rw [hD]
    have h1 := firsts_len (p.take i)
    rw [List.length_take] at h1
    omega
   have hks : ∀ v ∈ (ofK p q i).map Prod.fst, ∃ l, keyOf Tryz.prog 2 v = some l := fun v hv => by
    rw [hk1] at hv
    obtain ⟨y, hy, rfl⟩ := List.mem_map.1 hv
    rw [hD] at hy
    exact keyOfI (H64.out y (List.mem_of_mem_take ((firsts_mem _ _).1 hy)))
   have hkn : ((ofK p q i).map Prod.fst).Nodup := by rw [hk1]; exact keysI_nodup hDn
   have hlenK : (ofK p q i).length = D.length := by
    have h := congrArg List.length hk1
    unfold keysI at h
    rwa [List.length_map, List.length_map] at h
   by_cases hm : b ∈ D
   ·have hj := fstIx_lt hm
    have hjk : fstIx D b < (ofK p q i).length := by rw [hlenK]; exact hj
    have hfd := hmap.found keyedI underMapI hks hkn hjk
    obtain ⟨w2, hup, hm2, hg2⟩ := hmap.again keyedI underMapI hks hkn hjk
    have hkj : (ofK p q i)[fstIx D b] = (.int .i64 b, .int .i64 c) := by
     have h : (ofK p q i)[fstIx D b]? = some (.int .i64 b, .int .i64 c) := by
      unfold ofK
      rw [← hD, List.getElem?_map, fstIx_get hm, Option.map_some, hqb2]
     rw [List.getElem?_eq_getElem hjk] at h
     exact Option.some.inj h
    rw [hkj] at hfd hup
    rw [← hold hm] at hm2
    have HM2 := Lib.hid hm2
    have HB2 : Hid (Below w.heap.size w w2) := HBL.out.grown hg2 hszC (fun b e => by cases e; rw [HMB.out]; exact Nat.le_refl _)
    clear hbl hmap hm2 hg2 hkj hjk hj hnew hold hks hkn hlenK hDn hDl hD hk1 hb hc hqb2 hm hip hiq
    go_wp2
    go_roundw
    case rel => exact ⟨i + 1, by omega, by go_num, HB2.out, HM2.out⟩
    case measure => simp [intOf]; omega
   ·obtain ⟨kl, hkl⟩ := keyOfI (show I64 b from by rw [hb]; exact H64.out _ (List.getElem_mem hip))
    have hnk : Value.int .i64 b ∉ (ofK p q i).map Prod.fst := fun h => by
     rw [hk1] at h
     obtain ⟨y, hy, e⟩ := List.mem_map.1 h
     rw [show y = b from by simpa using e] at hy
     exact hm hy
    have hmi := hmap.missing keyedI underMapI hks (zeroI64N wC) hkl hnk
    obtain ⟨w2, hup, hm2, hg2⟩ := hmap.store keyedI underMapI hks hkl hnk (by rw [hlenK]; unfold maxLen; omega) (.int .i64 c)
    rw [← hnew hm] at hm2
    have HM2 := Lib.hid hm2
    have HB2 : Hid (Below w.heap.size w w2) := HBL.out.grown hg2 hszC (fun b e => by cases e; rw [HMB.out]; exact Nat.le_refl _)
    clear hbl hmap hm2 hg2 hnew hold hks hkn hlenK hDn hDl hD hk1 hb hc hqb2 hm hip hiq hnk hkl
    go_wp2
    go_roundw
    case rel => exact ⟨i + 1, by omega, by go_num, HB2.out, HM2.out⟩
    case measure => simp [intOf]; omega
  ·obtain rfl : i = N := by omega
   clear hbl hmap
   go_wp2
   go_ret
   exact ⟨rfl, HBL.out⟩

set_option maxRecDepth 100000 in
set_option maxHeartbeats 1000000 in
theorem itemsOk_any (n : Nat) (w : World) (h1 : 1 ≤ n) (h40 : n ≤ 40) : Calls Tryz.prog 73 #[.int .i64 n] w fun e w' => e = .returned (.bool true) ∧ w = w' := by
 have hi : inB (n : Int) 1 40 = true := by unfold inB; simp; omega
 have HW := Lib.hid (within_is hi w)
 clear hi
 go_enter Tryz.func73, Tryz.ntmps73
 go_wp2_with fail
 refine Calls.mono HW.out ?_
 rintro e w1 ⟨rfl, rfl⟩
 go_wp2
 go_ret
 exact ⟨rfl, rfl⟩
set_option maxRecDepth 100000 in
set_option maxHeartbeats 1000000 in
theorem IsPartition_any (lo : Nat) (v : Value) (p : List Int) (w : World) (hv : SliceK 1 encI lo w v p) (h1 : 1 ≤ p.length) (h40 : p.length ≤ 40) (h64 : ∀ x ∈ p, I64 x) (hn : normL p = p) :
  Calls Tryz.prog 56 #[v] w fun e w' => e = .returned (.bool true) ∧ Below w.heap.size w w' := by
 have HIT := Lib.hid (itemsOk_any p.length w h1 h40)
 have HNO := Lib.hid (normal_any lo v p w (by omega) h64 hv)
 rw [hn] at HNO
 have HV := Lib.hid hv
 have hne : p ≠ [] := fun e => by rw [e] at h1; simp at h1
 have HNE := Lib.hid hne
 obtain ⟨a, c, rfl, -, -, -⟩ := hv
 clear hne h64 hn
 go_enter Tryz.func56, Tryz.ntmps56
 go_wp2_with fail
 refine Calls.mono HIT.out ?_
 rintro e w1 ⟨rfl, rfl⟩
 go_wp2_with fail
 refine Calls.mono HNO.out ?_
 rintro e w2 ⟨v2, rfl, hb2, ho2⟩
 obtain ⟨a2, c2, rfl, -, -⟩ := owns_slice ho2
 have HEQ := Lib.hid (EqualI_any lo w.heap.size _ _ _ _ w2 (HV.out.below hb2) (SliceK.of_owns (enc := encI) (e := 2) encI_len rfl (by rw [flat_encI]; exact ho2)) HNE.out HNE.out)
 rw [show (p == p) = true from beq_self_eq_true _] at HEQ
 have HB2 := Lib.hid hb2
 clear hb2 ho2 HNO
 go_wp2_with fail
 refine Calls.mono HEQ.out ?_
 rintro e w3 ⟨rfl, hb3⟩
 have HB3 := Lib.hid (HB2.out.trans (hb3.mono HB2.out.size))
 clear hb3 HEQ
 go_wp2
 go_ret
 exact ⟨rfl, HB3.out⟩
set_option maxRecDepth 100000 in
set_option maxHeartbeats 1000000 in
theorem partitionsCode_any (lo lo2 : Nat) (pv qv : Value) (p q : List Int) (w : World) (hp : SliceK 1 encI lo w pv p) (hq : SliceK 1 encI lo2 w qv q) (hql : q.length = p.length) (h1 : 1 ≤ p.length) (h40 : p.length ≤ 40) (hp64 : ∀ x ∈ p, I64 x) (hq64 : ∀ x ∈ q, I64 x) (hpn : normL p = p) (hqn : normL q = q) :
  Calls Tryz.prog 28 #[pv, qv] w fun e w' => e = .returned (.int .i64 0) ∧ Below w.heap.size w w' := by
 have HIP := Lib.hid (IsPartition_any lo pv p w hp h1 h40 hp64 hpn)
 have HIQ : Hid (∀ w', Below w.heap.size w w' → Calls Tryz.prog 56 #[qv] w' fun e w'' => e = .returned (.bool true) ∧ Below w'.heap.size w' w'') := fun w' hb => IsPartition_any lo2 qv q w' (hq.below hb) (by omega) (by omega) hq64 hqn
 obtain ⟨a, c, rfl, -, -, -⟩ := hp
 obtain ⟨a2, c2, rfl, -, -, -⟩ := hq
 rw [hql] at HIQ ⊢
 clear hp64 hq64 hpn hqn hql
 go_enter Tryz.func28, Tryz.ntmps28
 go_wp2_with fail
 refine Calls.mono HIP.out ?_
 rintro e w1 ⟨rfl, hb1⟩
 have HB1 := Lib.hid hb1
 have HQ1 := Lib.hid (HIQ.out w1 hb1)
 clear hb1 HIQ HIP
 go_wp2_with fail
 refine Calls.mono HQ1.out ?_
 rintro e w2 ⟨rfl, hb2⟩
 have HB2 := Lib.hid (HB1.out.trans (hb2.mono HB1.out.size))
 clear hb2 HQ1
 go_wp2
 go_ret
 exact ⟨rfl, HB2.out⟩
set_option maxRecDepth 100000 in
set_option maxHeartbeats 1000000 in
theorem RefinesPartition_any (lo lo2 : Nat) (pv qv : Value) (p q : List Int) (w : World) (hp : SliceK 1 encI lo w pv p) (hq : SliceK 1 encI lo2 w qv q) (hql : q.length = p.length) (h1 : 1 ≤ p.length) (h40 : p.length ≤ 40) (hp64 : ∀ x ∈ p, I64 x) (hq64 : ∀ x ∈ q, I64 x) (hpn : normL p = p) (hqn : normL q = q) (hr : RefO p q) :
  Calls Tryz.prog 12 #[pv, qv] w fun e w' => e = .returned (.tuple #[.bool true, .int .i64 0]) ∧ Below w.heap.size w w' := by
 have HC := Lib.hid (partitionsCode_any lo lo2 pv qv p q w hp hq hql h1 h40 hp64 hq64 hpn hqn)
 have HRF : Hid (∀ w', Below w.heap.size w w' → Calls Tryz.prog 29 #[pv, qv] w' fun e w'' => e = .returned (.bool true) ∧ Below w'.heap.size w' w'') := fun w' hb => refines_any lo lo2 pv qv p q w' (by omega) hql hp64 hr (hp.below hb) (hq.below hb)
 obtain ⟨a, c, rfl, -, -, -⟩ := hp
 obtain ⟨a2, c2, rfl, -, -, -⟩ := hq
 clear hp64 hq64 hpn hqn hql hr
 go_enter Tryz.func12, Tryz.ntmps12
 go_wp2_with fail
 refine Calls.mono HC.out ?_
 rintro e w1 ⟨rfl, hb1⟩
 have HB1 := Lib.hid hb1
 have HR1 := Lib.hid (HRF.out w1 hb1)
 clear hb1 HRF HC
 go_wp2_with fail
 refine Calls.mono HR1.out ?_
 rintro e w2 ⟨rfl, hb2⟩
 have HB2 := Lib.hid (HB1.out.trans (hb2.mono HB1.out.size))
 clear hb2 HR1
 go_wp2
 refine bodyPost_ret (results_tmp2 rfl _ _ _) rfl ?_
 exact ⟨rfl, HB2.out⟩

end Go.Proofs.YtifoinannefcpaaGreatDoor
