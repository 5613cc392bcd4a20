/-
  The program's simulationClasses: states that are below one another.
  The program's clone of a system.
  What PruneBrothers leaves in memory.
  The program's pruneBrothers.
  ValidLts at a valid system, and at one that is not; boxes.
  The program's MinimalSimulation.
  The program's AreMutual, where both systems simulate each other; LittleBrothers; SimulationClasses.
-/
import Derived.Test.YtdkbbknhighebaaGreatDoorL12
import Derived.Test.YtdkbbknhighebaaGreatDoorL14
import Derived.Test.YtdkbbknhighebaaGreatDoorL9
import Derived.Test.YtdkbbknhighebaaGreatDoorL11
import Derived.Test.YtdkbbknhighebaaGreatDoorL1
import Derived.Test.YtdkbbknhighebaaGreatDoorL2
import Derived.Laws.EntriesVeiled
import Derived.Test.YtdkbbknhighebaaGreatDoorL8
import Derived.Test.YtdkbbknhighebaaGreatDoorL13
import Derived.Test.YtdkbbknhighebaaGreatDoorL4
namespace Go.Proofs.YtdkbbknhighebaaGreatDoor
open Go Go.RowKit


theorem clsL_set' {N : PairSet} {S k j : Nat} (hk : k < S) : (clsL N S k j).set k (clsTo N k j : Int) = clsL N S k j := by
 have h := clsL_at (N := N) (j := j) hk
 apply List.ext_getElem?
 intro i
 rw [List.getElem?_set]
 split
 ·rename_i e
  subst e
  rw [h]
  simp [clsL_len, hk]
 ·rfl

def RetCls (t : Lts) (S : Nat) (w : World) (e : Ending) (w' : World) : Prop := ∃ N : PairSet, Great t t (allG t t) N ∧ MadeNums (normL (clsA N S)) w e w'

set_option maxRecDepth 100000 in
set_option maxHeartbeats 4000000 in
theorem simulationClasses_any (lo S : Nat) (t : Lts) (lv ev : Value) (w : World) (hv : Valid t) (hS : (S : Int) = t.states) (hl : SliceK 1 encS lo w lv t.labels) (he : SliceK 3 encE lo w ev t.edges) :
  Calls Tryz.prog 17 #[.agg #[.int .i64 t.states, .int .i64 t.initial, lv, ev]] w (RetCls t S w) := by
 have hst0 := hv.st0
 have hst1 := hv.st1
 have hS40 : S ≤ 40 := by omega
 have hS1 : 1 ≤ S := by omega
 obtain ⟨tb, htb⟩ : ∃ tb, tb = w.heap.size := ⟨_, rfl⟩
 obtain ⟨W, hW⟩ : ∃ W, W = w.alloc (.cells #[.int .i64 t.states, .int .i64 t.initial, lv, ev] 27) := ⟨_, rfl⟩
 have hb : Below w.heap.size w W := by rw [hW]; exact box_belowL _ _ _
 have hT : Blk W tb [.int .i64 t.states, .int .i64 t.initial, lv, ev] 27 := by rw [hW, htb]; exact Blk.new w _ _
 have HBL := Lib.hid (below_any lo t lv ev W hv (hl.below hb) (he.below hb))
 have HT := Lib.hid hT
 have HB := Lib.hid hb
 have HW := Lib.hid hW
 have HTB := Lib.hid htb
 have HV := Lib.hid hv
 have t0 := hT.cell 0 rfl
 have t1 := hT.cell 1 rfl
 have t2 := hT.cell 2 rfl
 have t3 := hT.cell 3 rfl
 rw [← hS] at t0 HT HW HBL ⊢
 have HSS := Lib.hid hS
 rw [hW, htb, ← hS] at t0 t1 t2 t3
 clear hv hl he hb hT hW htb hS
 go_enter Tryz.func17, Tryz.ntmps17
 go_wp2_with fail
 rw [← HW.out]
 try rw [← HTB.out]
 refine Calls.mono HBL.out ?_
 rintro e w1 ⟨mb, ps, rfl, hb1, hm1, hG⟩
 have HT1 := Lib.hid (HT.out.below hb1)
 have HB1 := Lib.hid (HB.out.trans (hb1.mono HB.out.size))
 have HM1 := Lib.hid hm1
 have HG := Lib.hid hG
 have HU := Lib.hid (upToU_any S w1 (by omega))
 have u0 := HT1.out.cell 0 rfl
 clear hb1 hm1 hG t0 t1 t2 t3 HBL
 go_wp2_with fail
 refine Calls.mono HU.out ?_
 rintro e w2 ⟨v, rfl, hb2, ho2⟩
 rw [upI_len, ← clsL_zero (setOf ps)] at ho2
 obtain ⟨g, c, rfl, hgb⟩ : ∃ g c, v = .slice (some ⟨g, 0, none⟩) S c ∧ w1.heap.size ≤ g := by
  rcases ho2.2 with ⟨-, h0⟩ | ⟨g, cap, cur, h1, h2, -⟩
  ·omega
  ·exact ⟨g, cap, h1, h2⟩
 have HO2 := Lib.hid ho2
 have HB2 := Lib.hid hb2
 have u2 := keeps hb2 HT1.out.lt u0
 have hs2 : w1.heap.size ≤ w2.heap.size := hb2.size
 clear hb2 ho2 u0 HU
 go_wp2_with fail
 go_loopw [14] (fun v14 wr => ∃ k : Nat, k ≤ S ∧ v14 = .int .i64 k ∧ Below w1.heap.size w1 wr ∧ w1.heap.size ≤ wr.heap.size ∧ wr.ownsRow w1.heap.size 2 1 (.slice (some ⟨g, 0, none⟩) S c) S ((clsL (setOf ps) S k 0).map (Value.int .i64))) (fun v14 _ => S - (intOf v14).toNat)
 case atStart => exact ⟨0, Nat.zero_le _, rfl, HB2.out, hs2, HO2.out⟩
 case round =>
  clear HB2 HO2 hs2 u2
  obtain ⟨k, hk, rfl, hb3, hs3, ho3⟩ := hrel
  have HB3 := Lib.hid hb3
  have HO3 := Lib.hid ho3
  clear hb3 ho3
  by_cases hkS : k < S
  ·have hkI : (k : Int) < (S : Int) := by omega
   go_wp2_with fail
   go_loopw [18] (fun v18 wr => ∃ j : Nat, j ≤ k ∧ v18 = .int .i64 j ∧ Below w1.heap.size w1 wr ∧ w1.heap.size ≤ wr.heap.size ∧ wr.ownsRow w1.heap.size 2 1 (.slice (some ⟨g, 0, none⟩) S c) S ((clsL (setOf ps) S k j).map (Value.int .i64))) (fun v18 _ => k - (intOf v18).toNat)
   case atStart => exact ⟨0, Nat.zero_le _, rfl, HB3.out, hs3, HO3.out⟩
   case round =>
    clear HB3 HO3 hs3
    obtain ⟨j, hj, rfl, hb4, hs4, ho4⟩ := hrel
    obtain ⟨wC, rfl⟩ : ∃ wC : World, wC = wr := ⟨_, rfl⟩
    have HB4 := Lib.hid hb4
    have HO4 := Lib.hid ho4
    by_cases hjk : j < k
    ·have hjkI : (j : Int) < (k : Int) := by omega
     have hpm := HM1.out.below hb4
     have l1 := hpm.lookLit (x := (k : Int)) (y := (j : Int)) ⟨⟨by show (0 : Int) ≤ k; omega, by show (k : Int) < 40; omega⟩, ⟨by show (0 : Int) ≤ j; omega, by show (j : Int) < 40; omega⟩⟩
     have l2 := hpm.lookLit (x := (j : Int)) (y := (k : Int)) ⟨⟨by show (0 : Int) ≤ j; omega, by show (j : Int) < 40; omega⟩, ⟨by show (0 : Int) ≤ k; omega, by show (k : Int) < 40; omega⟩⟩
     obtain ⟨q1, hq1⟩ : ∃ q1, q1 = decide (((k : Int), (j : Int)) ∈ ps) := ⟨_, rfl⟩
     obtain ⟨q2, hq2⟩ : ∃ q2, q2 = decide (((j : Int), (k : Int)) ∈ ps) := ⟨_, rfl⟩
     rw [← hq1] at l1
     rw [← hq2] at l2
     have HQ : Hid ((setOf ps (k : Int) (j : Int) && setOf ps (j : Int) (k : Int)) = (q1 && q2)) := by rw [hq1, hq2]; rfl
     have c1 := ho4.cellAt k (by omega)
     rw [List.getElem?_map, clsL_at hkS, Option.map_some] at c1
     have c2 := ho4.frozenAt k
     obtain ⟨u, hu⟩ : ∃ u, u = clsTo (setOf ps) k j := ⟨_, rfl⟩
     rw [← hu] at c1
     have HU := Lib.hid hu
     clear hb4 ho4 hpm hq1 hq2 hu
     cases q1
     ·go_wp2
      go_roundw
      case rel =>
       have hn := clsTo_no HQ.out
       refine ⟨j + 1, by omega, by go_num, HB4.out, hs4, ?_⟩
       rw [← clsL_set hkS, hn, clsL_set' hkS]
       exact HO4.out
      case measure => simp [intOf]; omega
     ·cases q2
      ·go_wp2
       go_roundw
       case rel =>
        have hn := clsTo_no HQ.out
        refine ⟨j + 1, by omega, by go_num, HB4.out, hs4, ?_⟩
        rw [← clsL_set hkS, hn, clsL_set' hkS]
        exact HO4.out
       case measure => simp [intOf]; omega
      ·have hst : ∀ x : Int, ((wC.setCell ⟨g, k, none⟩ (.int .i64 x)).ownsRow w1.heap.size 2 1 (.slice (some ⟨g, 0, none⟩) S c) S (((clsL (setOf ps) S k j).set k x).map (Value.int .i64))) := fun x => by
        have h := (HO4.out.stored k (.int .i64 x)).1
        rw [← List.map_set] at h
        exact h
       have HST := Lib.hid hst
       have HN : Hid (clsTo (setOf ps) k (j + 1) = min u j) := by unfold Hid; rw [clsTo_yes hjk HQ.out, HU.out]
       clear hst
       have hmn : ((min u j : Nat) : Int) = min (u : Int) (j : Int) := by omega
       have HMN := Lib.hid hmn
       clear hmn
       go_wp2
       go_roundw
       case rel =>
        refine ⟨j + 1, by omega, by go_num, HB4.out.setCell hgb _, by simp; exact hs4, ?_⟩
        rw [← clsL_set hkS, HN.out, HMN.out]
        exact HST.out _
       case measure => simp [intOf]; omega
    ·obtain rfl : j = k := by omega
     clear hb4 ho4
     go_wp2
     go_roundw
     case rel => exact ⟨j + 1, by omega, by go_num, HB4.out, hs4, by rw [← clsL_row]; exact HO4.out⟩
     case measure => simp [intOf]; omega
  ·obtain rfl : k = S := by omega
   have ho5 := HO3.out
   rw [clsL_end] at ho5
   have hlen : (clsA (setOf ps) k).length = k := clsA_len _ _
   have hsl : SliceK 1 encI w1.heap.size wr (.slice (some ⟨g, 0, none⟩) k c) (clsA (setOf ps) k) := SliceK.of_owns (enc := encI) (e := 2) (fun _ => rfl) hlen.symm (by rw [flat_encI]; exact ho5)
   have HNN := Lib.hid (normal_any w1.heap.size _ _ wr (by rw [hlen]; omega) (fun x hx => by
    obtain ⟨i, hi, rfl⟩ := List.mem_map.1 hx
    have h1 := clsTo_le (setOf ps) i i (Nat.le_refl _)
    rw [clsTo_all] at h1
    have h2 := List.mem_range.1 hi
    constructor <;> omega) hsl)
   have HBW : Hid (Below w.heap.size w wr) := HB1.out.trans (HB3.out.mono HB1.out.size)
   clear ho5 hsl hlen
   go_wp2_with fail
   refine Calls.mono HNN.out ?_
   rintro e w5 ⟨v5, rfl, hb5, ho5⟩
   have HBF := Lib.hid (HBW.out.trans (hb5.mono HBW.out.size))
   have HOF := Lib.hid (own_lower ho5 HBW.out.size)
   clear hb5 ho5
   go_wp2
   go_ret
   exact ⟨setOf ps, HG.out, _, rfl, HBF.out, HOF.out⟩

end Go.Proofs.YtdkbbknhighebaaGreatDoor

namespace Go.Proofs.YtdkbbknhighebaaGreatDoor
open Go Go.RowKit


set_option maxRecDepth 100000 in
set_option maxHeartbeats 2000000 in
theorem clone_any (lo lo2 : Nat) (t : Lts) (lv ev : Value) (w : World) (hz : t.labels.length ≤ 1048576) (hz2 : t.edges.length ≤ 1048576) (hl : SliceK 1 encS lo w lv t.labels) (he : SliceK 3 encE lo2 w ev t.edges) :
  Calls Tryz.prog 47 #[.agg #[.int .i64 t.states, .int .i64 t.initial, lv, ev]] w fun e w' => ∃ lv' ev', e = .returned (.agg #[.int .i64 t.states, .int .i64 t.initial, lv', ev']) ∧ Below w.heap.size w w' ∧ OwnLts w.heap.size w' lv' ev' t := by
 obtain ⟨tb, htb⟩ : ∃ tb, tb = w.heap.size := ⟨_, rfl⟩
 obtain ⟨rc, hrc⟩ : ∃ rc, rc = w.heap.size + 1 := ⟨_, rfl⟩
 obtain ⟨W, hW⟩ : ∃ W, W = (w.alloc (.cells #[.int .i64 t.states, .int .i64 t.initial, lv, ev] 27)).alloc (.cells #[.int .i64 0, .int .i64 0, .slice none 0 0, .slice none 0 0] 27) := ⟨_, rfl⟩
 have hb : Below w.heap.size w W := by rw [hW]; exact ((Below.refl _ _).alloc (Nat.le_refl _) _).alloc (by simp) _
 have hT : Blk W tb [.int .i64 t.states, .int .i64 t.initial, lv, ev] 27 := by rw [hW, htb]; exact (Blk.new w _ _).alloc _
 have hR : Blk W rc [.int .i64 0, .int .i64 0, .slice none 0 0, .slice none 0 0] 27 := by
  have h := Blk.new (w.alloc (.cells #[.int .i64 t.states, .int .i64 t.initial, lv, ev] 27)) [.int .i64 0, .int .i64 0, .slice none 0 0, .slice none 0 0] 27
  rw [World.size_alloc, ← hrc] at h
  rw [hW]
  exact h
 have hne : tb ≠ rc := by omega
 have hle : w.heap.size ≤ rc := by omega
 have hD : Below W.heap.size W W.drew := (Below.refl _ _).drew
 have HCS := Lib.hid (CloneS_own lo lv t.labels W.drew ((hl.below hb).below hD) hz)
 have HCE : Hid (∀ w', Below W.heap.size W w' → Calls Tryz.prog 69 #[ev] w' fun e w'' => ∃ v', e = .returned v' ∧ w''.ownsRow w'.heap.size 47 3 v' t.edges.length (t.edges.flatMap encE) ∧ Below w'.heap.size w' w'') := fun w' hb' => CloneE_own lo2 ev t.edges w' ((he.below hb).below hb') hz2
 have HSW : Hid (∀ w', Below W.heap.size W w' → w'.cell? ⟨tb, 0, none⟩ = some (.int .i64 t.states) ∧ w'.cell? ⟨tb, 1, none⟩ = some (.int .i64 t.initial) ∧ w'.cell? ⟨tb, 2, none⟩ = some lv ∧ w'.cell? ⟨tb, 3, none⟩ = some ev) := fun w' hb' =>
  ⟨(hT.below hb').cell 0 rfl, (hT.below hb').cell 1 rfl, (hT.below hb').cell 2 rfl, (hT.below hb').cell 3 rfl⟩
 have HKP : Hid (∀ (w' : World) (v0 v1 v2 v3 : Value), (w'.cell? ⟨tb, 0, none⟩ = some (.int .i64 t.states) ∧ w'.cell? ⟨tb, 1, none⟩ = some (.int .i64 t.initial) ∧ w'.cell? ⟨tb, 2, none⟩ = some lv ∧ w'.cell? ⟨tb, 3, none⟩ = some ev) →
   (((((w'.setCell ⟨rc, 0, none⟩ v0).setCell ⟨rc, 1, none⟩ v1).setCell ⟨rc, 2, none⟩ v2).setCell ⟨rc, 3, none⟩ v3).cell? ⟨tb, 0, none⟩ = some (.int .i64 t.states) ∧ ((((w'.setCell ⟨rc, 0, none⟩ v0).setCell ⟨rc, 1, none⟩ v1).setCell ⟨rc, 2, none⟩ v2).setCell ⟨rc, 3, none⟩ v3).cell? ⟨tb, 1, none⟩ = some (.int .i64 t.initial)
    ∧ ((((w'.setCell ⟨rc, 0, none⟩ v0).setCell ⟨rc, 1, none⟩ v1).setCell ⟨rc, 2, none⟩ v2).setCell ⟨rc, 3, none⟩ v3).cell? ⟨tb, 2, none⟩ = some lv ∧ ((((w'.setCell ⟨rc, 0, none⟩ v0).setCell ⟨rc, 1, none⟩ v1).setCell ⟨rc, 2, none⟩ v2).setCell ⟨rc, 3, none⟩ v3).cell? ⟨tb, 3, none⟩ = some ev)) := by
  rintro w' v0 v1 v2 v3 ⟨h0, h1, h2, h3⟩
  have hf : ∀ (x : World) (j o : Nat) (u : Value), (x.setCell ⟨rc, j, none⟩ u).cell? ⟨tb, o, none⟩ = x.cell? ⟨tb, o, none⟩ := fun x j o u => World.cell?_setCell_far _ _ _ _ fun k => hne k.symm
  refine ⟨?_, ?_, ?_, ?_⟩ <;> rw [hf, hf, hf, hf] <;> assumption
 have HD := Lib.hid hD
 have HB := Lib.hid hb
 have HR := Lib.hid hR
 have HW := Lib.hid hW
 have HTB := Lib.hid htb
 have HRC := Lib.hid hrc
 have hsW : w.heap.size ≤ W.heap.size := hb.size
 clear hl he hb hT hR hD hW htb hrc hne
 go_enter Tryz.func47, Tryz.ntmps47
 go_wp2
 rw [← HW.out]
 rw [← HRC.out, ← HTB.out]
 go_region_held3 (fun w' => w'.cell? ⟨tb, 0, none⟩ = some (.int .i64 t.states) ∧ w'.cell? ⟨tb, 1, none⟩ = some (.int .i64 t.initial) ∧ w'.cell? ⟨tb, 2, none⟩ = some lv ∧ w'.cell? ⟨tb, 3, none⟩ = some ev)
  (first
   | exact HSW.out _ HD.out
   | exact HSW.out _ hq1
   | exact HSW.out _ hq2
   | exact HKP.out _ _ _ _ _ (HSW.out _ hq2)
   | go_keep)
  (first
   | (go_at_call 36; refine Calls.mono HCS.out ?_; rintro e w1 ⟨v1, rfl, ho1, hb1⟩; obtain ⟨a1, c1, rfl, -, -⟩ := owns_slice ho1; have hq1 : Below W.heap.size W w1 := HD.out.trans (hb1.mono (by simp)))
   | (go_at_call 69; refine Calls.mono (HCE.out _ hq1) ?_; rintro e w2 ⟨v2, rfl, ho2, hb2⟩; obtain ⟨a2, c2, rfl, -, -⟩ := owns_slice ho2; have hq2 : Below W.heap.size W w2 := hq1.trans (hb2.mono hq1.size); have hr2 := HR.out.below hq2; have r0 := hr2.cell 0 rfl; have r1 := hr2.cell 1 rfl; have r2 := hr2.cell 2 rfl; have r3 := hr2.cell 3 rfl; have s0 := hr2.frozen 0; have s1 := hr2.frozen 1; have s2 := hr2.frozen 2; have s3 := hr2.frozen 3)
   | fail)
 all_goals (
  have HQ := Lib.hid (HB.out.trans (hq2.mono hsW))
  have HO1 := Lib.hid (own_lower (owns_below ho1 hb2) (Nat.le_trans hsW (by simp)))
  have HO2 := Lib.hid (own_lower ho2 (Nat.le_trans hsW hq1.size))
  have HR2 := Lib.hid hr2
  clear hb1 ho1 hq1 hb2 ho2 hq2 hr2 r0 r1 r2 r3 s0 s1 s2 s3
  go_wp2
  refine bodyPost_ret (clone_results rfl (put4 HR2.out)) rfl ?_
  refine ⟨_, _, rfl, below_put4 HQ.out hle, ?_, ?_⟩
  ·exact own_put4 HR2.out HO1.out (by decide)
  ·exact own_put4 HR2.out HO2.out (by decide))

end Go.Proofs.YtdkbbknhighebaaGreatDoor

namespace Go.Proofs.YtdkbbknhighebaaGreatDoor
open Go Go.RowKit

/-- A system without its little brothers, of the call's own. -/
def MadePb (t : Lts) (w : World) (e : Ending) (w' : World) : Prop :=
 Below w.heap.size w w' ∧ ∃ (N : PairSet) (lv ev : Value), e = .returned (.agg #[.int .i64 t.states, .int .i64 t.initial, lv, ev]) ∧ Great t t (allG t t) N ∧ OwnLts w.heap.size w' lv ev ⟨t.states, t.initial, t.labels, keptG t N⟩

end Go.Proofs.YtdkbbknhighebaaGreatDoor

namespace Go.Proofs.YtdkbbknhighebaaGreatDoor
open Go Go.RowKit


theorem prb_results {w : World} {b : Nat} {v0 v1 v2 v3 : Value} {tmps : Array Value} (hc : tmps.getD 2 undef = .pointer (some ⟨b, 0, none⟩)) (hb : Blk w b [v0, v1, v2, v3] 27) :
  (results Tryz.f19 tmps).run Tryz.prog w = .ok (.agg #[v0, v1, v2, v3]) w := by
 have h0 := hb.cell 0 rfl
 have h1 := hb.cell 1 rfl
 have h2 := hb.cell 2 rfl
 have h3 := hb.cell 3 rfl
 simp only [Array.getD_eq_getD_getElem?] at hc
 simp [results, Tryz.results19, go_sem, hc, h0, h1, h2, h3, Result.andThen]

set_option maxRecDepth 100000 in
theorem pb1_any (ib fid : Nat) (caps : Array Value) (b : Bool) (e : Edge) (w : World) (hI : Blk w ib [.func (.func fid) #[] caps] 48) (eg : ∀ args w, (callFunc fid args).run Tryz.prog w = .ok (.enter fid args) w)
  (hC : ∀ w', Below w.heap.size w w' → Calls Tryz.prog fid (#[.agg #[.int .i64 e.src, .int .i64 e.lab, .int .i64 e.dst]] ++ caps) w' fun r w'' => r = .returned (.bool b) ∧ Below w'.heap.size w' w'') :
  Calls Tryz.prog 46 #[.agg #[.int .i64 e.src, .int .i64 e.lab, .int .i64 e.dst], .pointer (some ⟨ib, 0, none⟩)] w fun r w' => r = .returned (.bool (!b)) ∧ Below w.heap.size w w' := by
 have hb := box_belowL w #[.int .i64 e.src, .int .i64 e.lab, .int .i64 e.dst] 47
 have HB := Lib.hid hb
 have HC := Lib.hid (hC _ hb)
 have i0 := hI.cell 0 rfl
 have hil := hI.lt
 clear hI hC hb
 go_enter Tryz.func46, Tryz.ntmps46
 go_wp2_with fail
 refine Calls.mono HC.out ?_
 rintro r w1 ⟨rfl, hb1⟩
 have HB1 := Lib.hid (HB.out.trans (hb1.mono HB.out.size))
 clear hb1 HC i0
 go_wp2
 go_ret
 exact ⟨rfl, HB1.out⟩

set_option maxRecDepth 100000 in
set_option maxHeartbeats 1000000 in
theorem pruneBrothers_any (lo : Nat) (t : Lts) (lv ev : Value) (w : World) (hv : Valid t) (hl : SliceK 1 encS lo w lv t.labels) (he : SliceK 3 encE lo w ev t.edges) :
  Calls Tryz.prog 19 #[.agg #[.int .i64 t.states, .int .i64 t.initial, lv, ev]] w (MadePb t w) := by
 have hlv : ∃ p n c, lv = .slice p n c := by obtain ⟨p, c, e, -⟩ := hl; exact ⟨_, _, _, e⟩
 obtain ⟨tb, htb⟩ : ∃ tb, tb = w.heap.size := ⟨_, rfl⟩
 obtain ⟨rc, hrc⟩ : ∃ rc, rc = w.heap.size + 1 := ⟨_, rfl⟩
 obtain ⟨W, hW⟩ : ∃ W, W = (w.alloc (.cells #[.int .i64 t.states, .int .i64 t.initial, lv, ev] 27)).alloc (.cells #[.int .i64 0, .int .i64 0, .slice none 0 0, .slice none 0 0] 27) := ⟨_, rfl⟩
 have hb : Below w.heap.size w W := by rw [hW]; exact ((Below.refl _ _).alloc (Nat.le_refl _) _).alloc (by simp) _
 have hT : Blk W tb [.int .i64 t.states, .int .i64 t.initial, lv, ev] 27 := by rw [hW, htb]; exact (Blk.new w _ _).alloc _
 have hR : Blk W rc [.int .i64 0, .int .i64 0, .slice none 0 0, .slice none 0 0] 27 := by
  have h := Blk.new (w.alloc (.cells #[.int .i64 t.states, .int .i64 t.initial, lv, ev] 27)) [.int .i64 0, .int .i64 0, .slice none 0 0, .slice none 0 0] 27
  rw [World.size_alloc, ← hrc] at h
  rw [hW]
  exact h
 have hle : w.heap.size ≤ rc := by omega
 have HLB := Lib.hid (littleBrothers_any lo t lv ev W hv (hl.below hb) (he.below hb))
 have HV := Lib.hid hv
 have HLV := Lib.hid hlv
 have HB := Lib.hid hb
 have HT := Lib.hid hT
 have HR := Lib.hid hR
 have HL := Lib.hid (hl.below hb)
 have HE := Lib.hid (he.below hb)
 have HW := Lib.hid hW
 have HTB := Lib.hid htb
 have HRC := Lib.hid hrc
 have hsW : w.heap.size ≤ W.heap.size := hb.size
 have t0 := hT.cell 0 rfl
 have t1 := hT.cell 1 rfl
 have t2 := hT.cell 2 rfl
 have t3 := hT.cell 3 rfl
 rw [hW, htb] at t0 t1 t2 t3
 clear hv hl he hlv hb hT hR hW htb hrc
 go_enter Tryz.func19, Tryz.ntmps19
 go_wp2_with fail
 rw [← HW.out]
 rw [← HRC.out, ← HTB.out]
 refine Calls.mono HLB.out ?_
 rintro e w1 ⟨tb2, nb, mb, ps, rfl, hb1, hT2, hN2, hM2, hG⟩
 obtain ⟨W2, hW2⟩ : ∃ W2, W2 = w1.alloc (.cells #[.func (.func 50) #[] #[.pointer (some ⟨tb2, 0, none⟩), .pointer (some ⟨nb, 0, none⟩)]] 48) := ⟨_, rfl⟩
 obtain ⟨ib, hib⟩ : ∃ ib, ib = w1.heap.size := ⟨_, rfl⟩
 have hb2 : Below w1.heap.size w1 W2 := by rw [hW2]; exact box_belowL _ _ _
 have hI : Blk W2 ib [.func (.func 50) #[] #[.pointer (some ⟨tb2, 0, none⟩), .pointer (some ⟨nb, 0, none⟩)]] 48 := by rw [hW2, hib]; exact Blk.new w1 _ _
 have h12 : Below W.heap.size W W2 := hb1.trans (hb2.mono hb1.size)
 have HT2 := Lib.hid (hT2.below hb2)
 have HN2 := Lib.hid (hN2.below hb2)
 have HM2 := Lib.hid (hM2.below hb2)
 have HI := Lib.hid hI
 have HGG := Lib.hid hG
 have HOA := Lib.hid (only_any lo 46 #[.pointer (some ⟨ib, 0, none⟩)] (fun e => !(brother t (setOf ps) e)) t lv ev W2 (Nat.le_trans HV.out.most (by decide)) HLV.out (HE.out.below h12) (fun args w => by kernel_rfl)
  (fun w' hb' x hx => pb1_any ib 50 #[.pointer (some ⟨tb2, 0, none⟩), .pointer (some ⟨nb, 0, none⟩)] (brother t (setOf ps) x) x w' (HI.out.below hb') (fun args w => by kernel_rfl) (fun w2 h2 => by
   have h3 := hb'.trans (h2.mono hb'.size)
   exact lb1_any lo tb2 nb mb t lv ev ps x w2 HV.out ((HE.out.below h12).below h3) (HT2.out.below h3) (HN2.out.below h3) (HM2.out.below h3) hx)))
 have HB2 := Lib.hid (HB.out.trans (h12.mono hsW))
 have HR2 := Lib.hid (HR.out.below h12)
 have HL2 := Lib.hid (HL.out.below h12)
 have hs2 : w.heap.size ≤ W2.heap.size := HB2.out.size
 have HW2 := Lib.hid hW2
 have HIB := Lib.hid hib
 clear t0 t1 t2 t3
 have t0 := (HT.out.below h12).cell 0 rfl
 have t1 := (HT.out.below h12).cell 1 rfl
 have t2 := (HT.out.below h12).cell 2 rfl
 have t3 := (HT.out.below h12).cell 3 rfl
 rw [hW2] at t0 t1 t2 t3
 have htl := (HT.out.below hb1).lt
 clear hb1 hT2 hN2 hM2 hG hW2 hib hb2 hI h12 HLB
 go_wp2_with fail
 rw [← HW2.out]
 try rw [← HIB.out]
 refine Calls.mono HOA.out ?_
 rintro e w3 ⟨ev', rfl, hb3, ho3⟩
 have HKG : Hid (t.edges.filter (fun e => !(brother t (setOf ps) e)) = keptG t (setOf ps)) := rfl
 rw [HKG.out] at ho3
 have hkl : (keptG t (setOf ps)).length ≤ 1048576 := Nat.le_trans (keptG_le _ _) (Nat.le_trans HV.out.most (by decide))
 have HCL := Lib.hid (clone_any lo W2.heap.size ⟨t.states, t.initial, t.labels, keptG t (setOf ps)⟩ lv ev' w3 (Nat.le_trans HV.out.labels.most (by decide)) hkl (HL2.out.below hb3) (SliceK.of_owns (enc := encE) encE_len rfl ho3))
 have HB3 := Lib.hid (HB2.out.trans (hb3.mono hs2))
 have HR3 := Lib.hid (HR2.out.below hb3)
 have hs3 : w.heap.size ≤ w3.heap.size := HB3.out.size
 clear hb3 ho3 hkl t0 t1 t2 t3 HOA
 go_wp2_with fail
 refine Calls.mono HCL.out ?_
 rintro e w4 ⟨lv4, ev4, rfl, hb4, ho4⟩
 obtain ⟨a1, c1, rfl, -, -⟩ := owns_slice ho4.1
 obtain ⟨a2, c2, rfl, -, -⟩ := owns_slice ho4.2
 have HB4 := Lib.hid (HB3.out.trans (hb4.mono hs3))
 have hr4 := HR3.out.below hb4
 have r0 := hr4.cell 0 rfl
 have r1 := hr4.cell 1 rfl
 have r2 := hr4.cell 2 rfl
 have r3 := hr4.cell 3 rfl
 have s0 := hr4.frozen 0
 have s1 := hr4.frozen 1
 have s2 := hr4.frozen 2
 have s3 := hr4.frozen 3
 have HR4 := Lib.hid hr4
 have HO4 := Lib.hid (ho4.lower hs3)
 clear hb4 hr4 ho4 HCL
 go_wp2
 refine bodyPost_ret (prb_results rfl (put4 HR4.out)) rfl ?_
 refine ⟨below_put4 HB4.out hle, setOf ps, _, _, rfl, HGG.out, ?_, ?_⟩
 ·exact own_put4 HR4.out HO4.out.1 (by decide)
 ·exact own_put4 HR4.out HO4.out.2 (by decide)

end Go.Proofs.YtdkbbknhighebaaGreatDoor

namespace Go.Proofs.YtdkbbknhighebaaGreatDoor
open Go Go.RowKit


theorem Valid_yes {lo : Nat} {t : Lts} {lv ev : Value} {w : World} (hv : Valid t) (hsh : Short20 t.labels) (hl : SliceK 1 encS lo w lv t.labels) (he : SliceK 3 encE lo w ev t.edges) (g : Glob w) :
  Calls Tryz.prog 13 #[.agg #[.int .i64 t.states, .int .i64 t.initial, lv, ev]] w fun e w' => e = .returned (.bool true) ∧ Below w.heap.size w w' :=
 Decides.yes (ValidLts_any lo t lv ev w hsh hl he g) hv
end Go.Proofs.YtdkbbknhighebaaGreatDoor

namespace Go.Proofs.YtdkbbknhighebaaGreatDoor
open Go Go.RowKit


theorem msi_results {w : World} {b : Nat} {v0 v1 v2 v3 : Value} {tmps : Array Value} (hc : tmps.getD 2 undef = .pointer (some ⟨b, 0, none⟩)) (hb : Blk w b [v0, v1, v2, v3] 27) :
  (results Tryz.f6 tmps).run Tryz.prog w = .ok (.tuple #[.agg #[v0, v1, v2, v3], tmps.getD 3 undef]) w := by
 have h0 := hb.cell 0 rfl
 have h1 := hb.cell 1 rfl
 have h2 := hb.cell 2 rfl
 have h3 := hb.cell 3 rfl
 simp only [Array.getD_eq_getD_getElem?] at hc
 simp [results, Tryz.results6, go_sem, hc, h0, h1, h2, h3, Result.andThen]

theorem OwnLts.labs {lo : Nat} {w : World} {lv ev : Value} {t : Lts} (h : OwnLts lo w lv ev t) : SliceK 1 encS lo w lv t.labels := SliceK.of_owns (enc := encS) encS_len rfl (by rw [flat_encS]; exact h.1)
theorem OwnLts.eds {lo : Nat} {w : World} {lv ev : Value} {t : Lts} (h : OwnLts lo w lv ev t) : SliceK 3 encE lo w ev t.edges := SliceK.of_owns (enc := encE) encE_len rfl h.2
theorem own_ints {lo : Nat} {w : World} {v : Value} {L : List Int} {n : Nat} (hn : n = L.length) (h : w.ownsRow lo 2 1 v n (L.map (Value.int .i64))) : SliceK 1 encI lo w v L := SliceK.of_owns (enc := encI) (e := 2) (fun _ => rfl) hn (by rw [flat_encI]; exact h)

/-- The system is a least one of the given system. -/
def LeastOf (t m : Lts) : Prop := Valid m ∧ m.labels = t.labels ∧ Le t m t.initial m.initial ∧ Le m t m.initial t.initial ∧ (∀ M, Great m m (allG m m) M → ∀ e ∈ m.edges, brother m M e = false) ∧ ∀ i j, (0 ≤ i ∧ i < m.states) → (0 ≤ j ∧ j < m.states) → Le m m i j → Le m m j i → i = j

def RetMsi (t : Lts) (w : World) (e : Ending) (w' : World) : Prop :=
 ∃ (m : Lts) (lv ev : Value), e = .returned (.tuple #[.agg #[.int .i64 m.states, .int .i64 m.initial, lv, ev], .int .i64 0]) ∧ Below w.heap.size w w' ∧ OwnLts w.heap.size w' lv ev m ∧ LeastOf t m

theorem closed_len {t : Lts} {L : List Int} (hv : Valid t) (hc : Closed t L) (hi : t.initial ∈ L) : L.length ≤ 1000 := by
 have h1 := ((partT_is hv hc hi).valid hv hc).st1
 have h2 : (partT t L).states = (L.length : Int) := rfl
 omega

/-- reachable, then part: with the two contracts as one. -/
theorem cls_low {N : PairSet} {S : Nat} (hS : S ≤ 40) : (normL (clsA N S)).length = S ∧ ∀ x ∈ normL (clsA N S), 0 ≤ x ∧ x ≤ 1000 := by
 refine ⟨by rw [normL_len, clsA_len], fun x hx => ?_⟩
 have h := normL_range hx
 rw [clsA_len] at h
 omega

set_option maxRecDepth 100000 in
set_option maxHeartbeats 4000000 in
theorem minimalSimulation_any (lo : Nat) (t : Lts) (lv ev : Value) (w : World) (hv : Valid t) (hsh : Short20 t.labels) (hl : SliceK 1 encS lo w lv t.labels) (he : SliceK 3 encE lo w ev t.edges) (g : Glob w) :
  Calls Tryz.prog 6 #[.agg #[.int .i64 t.states, .int .i64 t.initial, lv, ev]] w (RetMsi t w) := by
 obtain ⟨l1, l2, l3, rfl⟩ : ∃ p n c, lv = .slice p n c := by obtain ⟨p, c, e, -⟩ := hl; exact ⟨_, _, _, e⟩
 obtain ⟨tb, htb⟩ : ∃ tb, tb = w.heap.size := ⟨_, rfl⟩
 obtain ⟨rc, hrc⟩ : ∃ rc, rc = w.heap.size + 1 := ⟨_, rfl⟩
 obtain ⟨wA, hwA⟩ : ∃ wA, wA = (w.alloc (.cells #[.int .i64 t.states, .int .i64 t.initial, .slice l1 l2 l3, ev] 27)).alloc (.cells #[.int .i64 0, .int .i64 0, .slice none 0 0, .slice none 0 0] 27) := ⟨_, rfl⟩
 have hbA : Below w.heap.size w wA := by rw [hwA]; exact ((Below.refl _ _).alloc (Nat.le_refl _) _).alloc (by simp) _
 have hT : Blk wA tb [.int .i64 t.states, .int .i64 t.initial, .slice l1 l2 l3, ev] 27 := by rw [hwA, htb]; exact (Blk.new w _ _).alloc _
 have hR : Blk wA rc [.int .i64 0, .int .i64 0, .slice none 0 0, .slice none 0 0] 27 := by
  have h := Blk.new (w.alloc (.cells #[.int .i64 t.states, .int .i64 t.initial, .slice l1 l2 l3, ev] 27)) [.int .i64 0, .int .i64 0, .slice none 0 0, .slice none 0 0] 27
  rw [World.size_alloc, ← hrc] at h
  rw [hwA]
  exact h
 have HL := Lib.hid (hl.below hbA)
 have HE := Lib.hid (he.below hbA)
 have HBA := Lib.hid hbA
 have HT := Lib.hid hT
 have HR := Lib.hid hR
 have HWA := Lib.hid hwA
 have HTB := Lib.hid htb
 have HRC := Lib.hid hrc
 have HV := Lib.hid hv
 have hsW : w.heap.size ≤ wA.heap.size := hbA.size
 have hle : w.heap.size ≤ rc := by omega
 have t0 := hT.cell 0 rfl
 have t1 := hT.cell 1 rfl
 have t2 := hT.cell 2 rfl
 have t3 := hT.cell 3 rfl
 rw [hwA, htb] at t0 t1 t2 t3
 have HVA : Hid (Calls Tryz.prog 13 #[.agg #[.int .i64 t.states, .int .i64 t.initial, .slice l1 l2 l3, ev]] wA fun e w' => e = .returned (.bool true) ∧ Below wA.heap.size wA w') := Valid_yes hv hsh HL.out HE.out (g.below hbA)
 clear hsh hl he g hwA hbA hT hR htb hrc hv
 go_enter Tryz.func6, Tryz.ntmps6
 go_wp2_with fail
 rw [← HWA.out]
 refine Calls.mono HVA.out ?_
 rintro e w1 ⟨rfl, hb1⟩
 obtain ⟨B1, hB1⟩ : ∃ B1, B1 = w1.heap.size := ⟨_, rfl⟩
 have HBW := Lib.hid (HBA.out.trans (hb1.mono hsW))
 have HR1 := Lib.hid (HR.out.below hb1)
 have HT1 := Lib.hid (HT.out.below hb1)
 have HL1 := Lib.hid (HL.out.below hb1)
 have HE1 := Lib.hid (HE.out.below hb1)
 have hsw1 : w.heap.size ≤ w1.heap.size := HBW.out.size
 have hD : Below w1.heap.size w1 w1.drew := (Below.refl _ _).drew
 have hD2 : Below w1.heap.size w1 (w1.alloc (.cells #[.int .i64 0, .int .i64 0, .slice none 0 0, .slice none 0 0] 27)).drew := ((Below.refl _ _).alloc (Nat.le_refl _) _).drew
 have hO2 : Blk (w1.alloc (.cells #[.int .i64 0, .int .i64 0, .slice none 0 0, .slice none 0 0] 27)).drew w1.heap.size [.int .i64 0, .int .i64 0, .slice none 0 0, .slice none 0 0] 27 := Blk.new w1 _ _
 have HO2 := Lib.hid hO2
 have HD2 := Lib.hid hD2
 have HD := Lib.hid hD
 have hst0 := HV.out.st0
 have HRE : Hid (∀ w', Below w1.heap.size w1 w' → Calls Tryz.prog 15 #[.agg #[.int .i64 t.states, .int .i64 t.initial, .slice l1 l2 l3, ev]] w' (RetRch t w')) := fun w' h => reachable_any lo t.states.toNat t (.slice l1 l2 l3) ev w' HV.out (by omega) ⟨_, _, _, rfl⟩ (HE1.out.below h)
 have HPA : Hid (∀ (L : List Int) (lo2 : Nat) (sv : Value) (w' : World), Below w1.heap.size w1 w' → L.length ≤ 1000 → SliceK 1 encI lo2 w' sv L → Calls Tryz.prog 14 #[.agg #[.int .i64 t.states, .int .i64 t.initial, .slice l1 l2 l3, ev], sv] w' (RetPart t L w')) := fun L lo2 sv w' h hL hs => part_any lo lo2 t L _ ev sv w' HV.out hL (HL1.out.below h) (HE1.out.below h) hs
 have HSW : Hid (∀ w', Below w1.heap.size w1 w' → w'.cell? ⟨tb, 0, none⟩ = some (.int .i64 t.states) ∧ w'.cell? ⟨tb, 1, none⟩ = some (.int .i64 t.initial) ∧ w'.cell? ⟨tb, 2, none⟩ = some (.slice l1 l2 l3) ∧ w'.cell? ⟨tb, 3, none⟩ = some ev) := fun w' h =>
  ⟨(HT1.out.below h).cell 0 rfl, (HT1.out.below h).cell 1 rfl, (HT1.out.below h).cell 2 rfl, (HT1.out.below h).cell 3 rfl⟩
 clear hb1 t0 t1 t2 t3 hD hD2 hO2 HVA
 rw [← HRC.out, ← HTB.out]
 go_upto_region 3 with fail
 go_cut [4] from 6 (fun v4 wx => ∃ (rb : Nat) (L : List Int) (lv ev : Value), v4 = .pointer (some ⟨rb, 0, none⟩) ∧ w1.heap.size ≤ rb ∧ Below w1.heap.size w1 wx ∧ Closed t L ∧ t.initial ∈ L ∧ Blk wx rb [.int .i64 (partT t L).states, .int .i64 (partT t L).initial, lv, ev] 27 ∧ OwnLts w1.heap.size wx lv ev (partT t L))
 case first =>
  go_region_held3 (fun w' => w'.cell? ⟨tb, 0, none⟩ = some (.int .i64 t.states) ∧ w'.cell? ⟨tb, 1, none⟩ = some (.int .i64 t.initial) ∧ w'.cell? ⟨tb, 2, none⟩ = some (.slice l1 l2 l3) ∧ w'.cell? ⟨tb, 3, none⟩ = some ev)
   (first
    | exact HSW.out _ HD.out
    | exact HSW.out _ HD2.out
    | exact HSW.out _ hq3
    | exact HSW.out _ (hq3.alloc hq3.size _)
    | exact HSW.out _ (below_put4 hq3 hrb)
    | exact HSW.out _ hq2
    | exact HSW.out _ (hq2.alloc hq2.size _)
    | go_keep)
   (first
    | (go_at_call 15; refine Calls.mono (HRE.out _ HD.out) ?_; rintro e w2 ⟨L, a2, c2, rfl, hb2, ho2, hcl, hin⟩; have hq2 : Below w1.heap.size w1 w2 := HD.out.trans (hb2.mono HD.out.size); have hLL := closed_len HV.out hcl hin)
    | (go_at_call 15; refine Calls.mono (HRE.out _ HD2.out) ?_; rintro e w2 ⟨L, a2, c2, rfl, hb2, ho2, hcl, hin⟩; have hq2 : Below w1.heap.size w1 w2 := HD2.out.trans (hb2.mono HD2.out.size); have hLL := closed_len HV.out hcl hin; have hz2 := HO2.out.below hb2)
    | (go_at_call 14; refine Calls.mono (HPA.out L _ _ _ hq2 hLL (own_ints rfl ho2)) ?_; rintro e w3 ⟨lv3, ev3, rfl, hb3, ho3⟩; obtain ⟨a3, c3, rfl, -, -⟩ := owns_slice ho3.1; obtain ⟨a4, c4, rfl, -, -⟩ := owns_slice ho3.2; have hq3 : Below w1.heap.size w1 w3 := hq2.trans (hb3.mono hq2.size); have hoq := ho3.lower (lo' := w1.heap.size) hq2.size; try (have hz3 := hz2.below hb3; have hrb := Nat.le_refl w1.heap.size; have r0 := hz3.cell 0 rfl; have r1 := hz3.cell 1 rfl; have r2 := hz3.cell 2 rfl; have r3 := hz3.cell 3 rfl; have s0 := hz3.frozen 0; have s1 := hz3.frozen 1; have s2 := hz3.frozen 2; have s3 := hz3.frozen 3))
    | (go_at_call 14; refine Calls.mono (HPA.out L _ _ _ (hq2.alloc hq2.size _) hLL (own_ints rfl (ho2.alloc _))) ?_; rintro e w3 ⟨lv3, ev3, rfl, hb3, ho3⟩; obtain ⟨a3, c3, rfl, -, -⟩ := owns_slice ho3.1; obtain ⟨a4, c4, rfl, -, -⟩ := owns_slice ho3.2; have hq3 : Below w1.heap.size w1 w3 := (hq2.alloc hq2.size _).trans (hb3.mono (hq2.alloc hq2.size _).size); have hoq := ho3.lower (lo' := w1.heap.size) (hq2.alloc hq2.size _).size; have hz3 := (Blk.new w2 [.int .i64 0, .int .i64 0, .slice none 0 0, .slice none 0 0] 27).below hb3; have hrb := hq2.size; have r0 := hz3.cell 0 rfl; have r1 := hz3.cell 1 rfl; have r2 := hz3.cell 2 rfl; have r3 := hz3.cell 3 rfl; have s0 := hz3.frozen 0; have s1 := hz3.frozen 1; have s2 := hz3.frozen 2; have s3 := hz3.frozen 3)
    | fail)
  all_goals (
   go_wp2_with fail
   go_meet
   first
    | exact ⟨_, L, _, _, rfl, hq3.size, hq3.alloc hq3.size _, hcl, hin, Blk.new w3 _ _, hoq.below ((Below.refl _ _).alloc (Nat.le_refl _) _)⟩
    | exact ⟨_, L, _, _, rfl, hrb, below_put4 hq3 hrb, hcl, hin, put4 hz3, own_put4 hz3 hoq.1 (by decide), own_put4 hz3 hoq.2 (by decide)⟩)
 case rest =>
  obtain ⟨wX, rfl⟩ : ∃ wX : World, wX = wc := ⟨_, rfl⟩
  clear HD HD2 HO2 HRE HPA HSW
  obtain ⟨rb, L, lv4, ev4, rfl, hrb, hb4, hcl, hin, hX, ho⟩ := hcut
  have hpr := partT_is HV.out hcl hin
  have hrv := hpr.valid HV.out hcl
  obtain ⟨r, hr⟩ : ∃ r, r = partT t L := ⟨_, rfl⟩
  rw [← hr] at hpr hrv hX ho
  obtain ⟨la4, lc4, rfl, -, -⟩ := owns_slice ho.1
  obtain ⟨ea4, ec4, rfl, -, -⟩ := owns_slice ho.2
  obtain ⟨LN, hLN⟩ : ∃ LN, LN = r.labels.length := ⟨_, rfl⟩
  obtain ⟨EN, hEN⟩ : ∃ EN, EN = r.edges.length := ⟨_, rfl⟩
  rw [← hLN, ← hEN] at hX ho
  obtain ⟨S, hS⟩ : ∃ S : Nat, (S : Int) = r.states := ⟨r.states.toNat, by have := hrv.st0; omega⟩
  have hS40 : S ≤ 40 := by have := hrv.st1; omega
  have HPR := Lib.hid hpr
  have HRV := Lib.hid hrv
  have HCL := Lib.hid hcl
  have HX := Lib.hid hX
  have HOR : Hid (OwnLts w1.heap.size wX (.slice la4 LN lc4) (.slice ea4 EN ec4) r) := ho
  have HBC : Hid (Below w.heap.size w wX) := HBW.out.trans (hb4.mono hsw1)
  have HRc := Lib.hid (HR1.out.below hb4)
  have hswc : w.heap.size ≤ wX.heap.size := HBC.out.size
  have HSE := Lib.hid hS
  have hD : Below wX.heap.size wX wX.drew := (Below.refl _ _).drew
  have hD2 : Below wX.heap.size wX (wX.alloc (.cells #[.int .i64 0, .int .i64 0, .slice none 0 0, .slice none 0 0] 27)).drew := ((Below.refl _ _).alloc (Nat.le_refl _) _).drew
  have hO2 : Blk (wX.alloc (.cells #[.int .i64 0, .int .i64 0, .slice none 0 0, .slice none 0 0] 27)).drew wX.heap.size [.int .i64 0, .int .i64 0, .slice none 0 0, .slice none 0 0] 27 := Blk.new wX _ _
  have HO2 := Lib.hid hO2
  have HD2 := Lib.hid hD2
  have HD := Lib.hid hD
  have HSC : Hid (∀ w', Below wX.heap.size wX w' → Calls Tryz.prog 17 #[.agg #[.int .i64 r.states, .int .i64 r.initial, .slice la4 LN lc4, .slice ea4 EN ec4]] w' (RetCls r S w')) := fun w' h => simulationClasses_any w1.heap.size S r _ _ w' HRV.out hS (HOR.out.below h).labs (HOR.out.below h).eds
  have HQU : Hid (∀ (N : PairSet) (lo2 : Nat) (pv : Value) (w' : World), Below wX.heap.size wX w' → SliceK 1 encI lo2 w' pv (normL (clsA N S)) → Calls Tryz.prog 16 #[.agg #[.int .i64 r.states, .int .i64 r.initial, .slice la4 LN lc4, .slice ea4 EN ec4], pv, .func (.func 18) #[] #[]] w' (RetQuo r (normL (clsA N S)) w')) := fun N lo2 pv w' h hs => quotient_any w1.heap.size lo2 S r (normL (clsA N S)) _ _ pv w' HRV.out hS (cls_low hS40).1 (cls_low hS40).2 (HOR.out.below h).labs (HOR.out.below h).eds hs
  have HSW : Hid (∀ w', Below wX.heap.size wX w' → w'.cell? ⟨rb, 0, none⟩ = some (.int .i64 r.states) ∧ w'.cell? ⟨rb, 1, none⟩ = some (.int .i64 r.initial) ∧ w'.cell? ⟨rb, 2, none⟩ = some (.slice la4 LN lc4) ∧ w'.cell? ⟨rb, 3, none⟩ = some (.slice ea4 EN ec4)) := fun w' h =>
   ⟨(HX.out.below h).cell 0 rfl, (HX.out.below h).cell 1 rfl, (HX.out.below h).cell 2 rfl, (HX.out.below h).cell 3 rfl⟩
  clear hpr hrv hcl hin hX ho hb4 hr hLN hEN hS hD hD2 hO2 HR1 HT1 HL1 HE1
  go_upto_region 4 with fail
  go_cut [5] from 6 (fun v5 wx => ∃ (qb : Nat) (q : Lts) (p : List Int) (N : PairSet) (lv ev : Value), v5 = .pointer (some ⟨qb, 0, none⟩) ∧ wX.heap.size ≤ qb ∧ Below wX.heap.size wX wx ∧ IsQuot r q p ∧ Great q q (allG q q) N ∧ Blk wx qb [.int .i64 q.states, .int .i64 q.initial, lv, ev] 27 ∧ OwnLts wX.heap.size wx lv ev (pruneG q N))
  case first =>
   go_region_held3 (fun w' => w'.cell? ⟨rb, 0, none⟩ = some (.int .i64 r.states) ∧ w'.cell? ⟨rb, 1, none⟩ = some (.int .i64 r.initial) ∧ w'.cell? ⟨rb, 2, none⟩ = some (.slice la4 LN lc4) ∧ w'.cell? ⟨rb, 3, none⟩ = some (.slice ea4 EN ec4))
    (first
     | exact HSW.out _ HD.out
     | exact HSW.out _ HD2.out
     | exact HSW.out _ hq4
     | exact HSW.out _ (hq4.alloc hq4.size _)
     | exact HSW.out _ (below_put4 hq4 hqb)
     | exact HSW.out _ hq3
     | exact HSW.out _ (hq3.alloc hq3.size _)
     | exact HSW.out _ hq2
     | exact HSW.out _ (hq2.alloc hq2.size _)
     | go_keep)
    (first
     | (go_at_call 17; refine Calls.mono (HSC.out _ HD.out) ?_; rintro e w2 ⟨N, hgN, v2, rfl, hb2, ho2⟩; have hq2 : Below wX.heap.size wX w2 := HD.out.trans (hb2.mono HD.out.size))
     | (go_at_call 17; refine Calls.mono (HSC.out _ HD2.out) ?_; rintro e w2 ⟨N, hgN, v2, rfl, hb2, ho2⟩; have hq2 : Below wX.heap.size wX w2 := HD2.out.trans (hb2.mono HD2.out.size); have hz2 := HO2.out.below hb2; have hqb := Nat.le_refl wX.heap.size)
     | (go_at_call 16; refine Calls.mono (HQU.out N _ _ _ hq2 (own_ints rfl ho2)) ?_; rintro e w3 ⟨n, lv3, ev3, hn1, hn2, rfl, hb3, ho3⟩; have hq3 : Below wX.heap.size wX w3 := hq2.trans (hb3.mono hq2.size); have hquo := quotT_is HRV.out HSE.out hgN hn1 hn2; try (have hz3 := hz2.below hb3))
     | (go_at_call 16; refine Calls.mono (HQU.out N _ _ _ (hq2.alloc hq2.size _) (own_ints rfl (ho2.alloc _))) ?_; rintro e w3 ⟨n, lv3, ev3, hn1, hn2, rfl, hb3, ho3⟩; have hq3 : Below wX.heap.size wX w3 := (hq2.alloc hq2.size _).trans (hb3.mono (hq2.alloc hq2.size _).size); have hquo := quotT_is HRV.out HSE.out hgN hn1 hn2; have hz3 := (Blk.new w2 [.int .i64 0, .int .i64 0, .slice none 0 0, .slice none 0 0] 27).below hb3; have hqb := hq2.size)
     | (go_at_call 19; refine Calls.mono (pruneBrothers_any _ (quotT r (normL (clsA N S)) n) _ _ _ (hquo.valid HRV.out) ho3.labs ho3.eds) ?_; rintro e w4 ⟨hb4, M, lv4, ev4, rfl, hgM, ho4⟩; obtain ⟨a3, c3, rfl, -, -⟩ := owns_slice ho4.1; obtain ⟨a4, c4, rfl, -, -⟩ := owns_slice ho4.2; have hq4 : Below wX.heap.size wX w4 := hq3.trans (hb4.mono hq3.size); have hoq := ho4.lower (lo' := wX.heap.size) hq3.size; try (have hz4 := hz3.below hb4; have r0 := hz4.cell 0 rfl; have r1 := hz4.cell 1 rfl; have r2 := hz4.cell 2 rfl; have r3 := hz4.cell 3 rfl; have s0 := hz4.frozen 0; have s1 := hz4.frozen 1; have s2 := hz4.frozen 2; have s3 := hz4.frozen 3))
     | (go_at_call 19; refine Calls.mono (pruneBrothers_any _ (quotT r (normL (clsA N S)) n) _ _ _ (hquo.valid HRV.out) (ho3.below ((Below.refl _ _).alloc (Nat.le_refl _) _)).labs (ho3.below ((Below.refl _ _).alloc (Nat.le_refl _) _)).eds) ?_; rintro e w4 ⟨hb4, M, lv4, ev4, rfl, hgM, ho4⟩; obtain ⟨a3, c3, rfl, -, -⟩ := owns_slice ho4.1; obtain ⟨a4, c4, rfl, -, -⟩ := owns_slice ho4.2; have hq4 : Below wX.heap.size wX w4 := (hq3.alloc hq3.size _).trans (hb4.mono (hq3.alloc hq3.size _).size); have hoq := ho4.lower (lo' := wX.heap.size) (hq3.alloc hq3.size _).size; have hz4 := (Blk.new w3 [.int .i64 0, .int .i64 0, .slice none 0 0, .slice none 0 0] 27).below hb4; have hqb := hq3.size; have r0 := hz4.cell 0 rfl; have r1 := hz4.cell 1 rfl; have r2 := hz4.cell 2 rfl; have r3 := hz4.cell 3 rfl; have s0 := hz4.frozen 0; have s1 := hz4.frozen 1; have s2 := hz4.frozen 2; have s3 := hz4.frozen 3)
     | fail)
   all_goals (
    go_wp2_with fail
    go_meet
    first
     | exact ⟨_, _, _, M, _, _, rfl, hq4.size, hq4.alloc hq4.size _, hquo, hgM, Blk.new w4 _ _, hoq.below ((Below.refl _ _).alloc (Nat.le_refl _) _)⟩
     | exact ⟨_, _, _, M, _, _, rfl, hqb, below_put4 hq4 hqb, hquo, hgM, put4 hz4, own_put4 hz4 hoq.1 (by decide), own_put4 hz4 hoq.2 (by decide)⟩)
  case rest =>
   clear HD HD2 HO2 HSC HQU HSW
   obtain ⟨wD, rfl⟩ : ∃ wD : World, wD = wc := ⟨_, rfl⟩
   obtain ⟨qb, q, p, N, lv4, ev4, rfl, hqb, hb4, hquo, hgN, hX, ho⟩ := hcut
   have hqv := hquo.valid HRV.out
   have hmv := pruneG_valid hqv N
   obtain ⟨u, hu⟩ : ∃ u, u = pruneG q N := ⟨_, rfl⟩
   have hX2 : Blk wD qb [.int .i64 u.states, .int .i64 u.initial, lv4, ev4] 27 := by rw [hu]; exact hX
   rw [← hu] at hmv ho
   obtain ⟨la5, lc5, rfl, -, -⟩ := owns_slice ho.1
   obtain ⟨ea5, ec5, rfl, -, -⟩ := owns_slice ho.2
   obtain ⟨LM, hLM⟩ : ∃ LM, LM = u.labels.length := ⟨_, rfl⟩
   obtain ⟨EM, hEM⟩ : ∃ EM, EM = u.edges.length := ⟨_, rfl⟩
   rw [← hLM, ← hEM] at hX2 ho
   have HUV := Lib.hid hmv
   have HUU := Lib.hid hu
   have HQV := Lib.hid hquo
   have HGN := Lib.hid hgN
   have HX := Lib.hid hX2
   have HOR : Hid (OwnLts wX.heap.size wD (.slice la5 LM lc5) (.slice ea5 EM ec5) u) := ho
   have HBD : Hid (Below w.heap.size w wD) := HBC.out.trans (hb4.mono hswc)
   have HRd := Lib.hid (HRc.out.below hb4)
   have hswd : w.heap.size ≤ wD.heap.size := HBD.out.size
   have hrl := HRc.out.lt
   have hD : Below wD.heap.size wD wD.drew := (Below.refl _ _).drew
   have HD := Lib.hid hD
   have hst1 := hmv.st0
   have HRE : Hid (∀ w', Below wD.heap.size wD w' → Calls Tryz.prog 15 #[.agg #[.int .i64 u.states, .int .i64 u.initial, .slice la5 LM lc5, .slice ea5 EM ec5]] w' (RetRch u w')) := fun w' h => reachable_any wX.heap.size u.states.toNat u _ _ w' HUV.out (by omega) ⟨_, _, _, rfl⟩ (HOR.out.below h).eds
   have HPA : Hid (∀ (L : List Int) (lo2 : Nat) (sv : Value) (w' : World), Below wD.heap.size wD w' → L.length ≤ 1000 → SliceK 1 encI lo2 w' sv L → Calls Tryz.prog 14 #[.agg #[.int .i64 u.states, .int .i64 u.initial, .slice la5 LM lc5, .slice ea5 EM ec5], sv] w' (RetPart u L w')) := fun L lo2 sv w' h hL hs => part_any wX.heap.size lo2 u L _ _ sv w' HUV.out hL (HOR.out.below h).labs (HOR.out.below h).eds hs
   have HSW : Hid (∀ w', Below wD.heap.size wD w' → w'.cell? ⟨qb, 0, none⟩ = some (.int .i64 u.states) ∧ w'.cell? ⟨qb, 1, none⟩ = some (.int .i64 u.initial) ∧ w'.cell? ⟨qb, 2, none⟩ = some (.slice la5 LM lc5) ∧ w'.cell? ⟨qb, 3, none⟩ = some (.slice ea5 EM ec5)) := fun w' h =>
    ⟨(HX.out.below h).cell 0 rfl, (HX.out.below h).cell 1 rfl, (HX.out.below h).cell 2 rfl, (HX.out.below h).cell 3 rfl⟩
   have hnq : qb ≠ rc := by omega
   have HKP : Hid (∀ (w' : World) (v0 v1 v2 v3 : Value), (w'.cell? ⟨qb, 0, none⟩ = some (.int .i64 u.states) ∧ w'.cell? ⟨qb, 1, none⟩ = some (.int .i64 u.initial) ∧ w'.cell? ⟨qb, 2, none⟩ = some (.slice la5 LM lc5) ∧ w'.cell? ⟨qb, 3, none⟩ = some (.slice ea5 EM ec5)) →
     (((((w'.setCell ⟨rc, 0, none⟩ v0).setCell ⟨rc, 1, none⟩ v1).setCell ⟨rc, 2, none⟩ v2).setCell ⟨rc, 3, none⟩ v3).cell? ⟨qb, 0, none⟩ = some (.int .i64 u.states) ∧ ((((w'.setCell ⟨rc, 0, none⟩ v0).setCell ⟨rc, 1, none⟩ v1).setCell ⟨rc, 2, none⟩ v2).setCell ⟨rc, 3, none⟩ v3).cell? ⟨qb, 1, none⟩ = some (.int .i64 u.initial)
      ∧ ((((w'.setCell ⟨rc, 0, none⟩ v0).setCell ⟨rc, 1, none⟩ v1).setCell ⟨rc, 2, none⟩ v2).setCell ⟨rc, 3, none⟩ v3).cell? ⟨qb, 2, none⟩ = some (.slice la5 LM lc5) ∧ ((((w'.setCell ⟨rc, 0, none⟩ v0).setCell ⟨rc, 1, none⟩ v1).setCell ⟨rc, 2, none⟩ v2).setCell ⟨rc, 3, none⟩ v3).cell? ⟨qb, 3, none⟩ = some (.slice ea5 EM ec5))) := by
    rintro w' v0 v1 v2 v3 ⟨h0, h1, h2, h3⟩
    have hf : ∀ (x : World) (j o : Nat) (y : Value), (x.setCell ⟨rc, j, none⟩ y).cell? ⟨qb, o, none⟩ = x.cell? ⟨qb, o, none⟩ := fun x j o y => World.cell?_setCell_far _ _ _ _ fun k => hnq k.symm
    refine ⟨?_, ?_, ?_, ?_⟩ <;> rw [hf, hf, hf, hf] <;> assumption
   clear hquo hgN hX hX2 ho hb4 hu hLM hEM hD hqv hmv
   go_upto_region 5 with fail
   go_region_held3 (fun w' => w'.cell? ⟨qb, 0, none⟩ = some (.int .i64 u.states) ∧ w'.cell? ⟨qb, 1, none⟩ = some (.int .i64 u.initial) ∧ w'.cell? ⟨qb, 2, none⟩ = some (.slice la5 LM lc5) ∧ w'.cell? ⟨qb, 3, none⟩ = some (.slice ea5 EM ec5))
    (first
     | exact HSW.out _ HD.out
     | exact HSW.out _ hq3
     | exact HKP.out _ _ _ _ _ (HSW.out _ hq3)
     | exact HSW.out _ hq2
     | go_keep)
    (first
     | (go_at_call 15; refine Calls.mono (HRE.out _ HD.out) ?_; rintro e w2 ⟨L2, a2, c2, rfl, hb2, ho2, hcl, hin⟩; have hq2 : Below wD.heap.size wD w2 := HD.out.trans (hb2.mono HD.out.size); have hLL := closed_len HUV.out hcl hin)
     | (go_at_call 14; refine Calls.mono (HPA.out L2 _ _ _ hq2 hLL (own_ints rfl ho2)) ?_; rintro e w3 ⟨lv3, ev3, rfl, hb3, ho3⟩; obtain ⟨a3, c3, rfl, -, -⟩ := owns_slice ho3.1; obtain ⟨a4, c4, rfl, -, -⟩ := owns_slice ho3.2; have hq3 : Below wD.heap.size wD w3 := hq2.trans (hb3.mono hq2.size); have hoq := ho3.lower (lo' := wD.heap.size) hq2.size; have hz3 := HRd.out.below hq3; have r0 := hz3.cell 0 rfl; have r1 := hz3.cell 1 rfl; have r2 := hz3.cell 2 rfl; have r3 := hz3.cell 3 rfl; have s0 := hz3.frozen 0; have s1 := hz3.frozen 1; have s2 := hz3.frozen 2; have s3 := hz3.frozen 3)
     | fail)
   all_goals (
    have HZ := Lib.hid hz3
    have HOQ := Lib.hid (hoq.lower (lo' := w.heap.size) hswd)
    have HQ3 := Lib.hid (HBD.out.trans (hq3.mono hswd))
    have HLE : Hid (LeastOf t (partT u L2)) := by
     unfold Hid
     have h1 := partT_is HUV.out hcl hin
     rw [HUU.out] at h1 hcl ⊢
     exact least_all HV.out HPR.out HCL.out HQV.out HGN.out h1 hcl
    clear hb2 ho2 hcl hin hb3 ho3 hq2 hq3 hoq hz3 hLL r0 r1 r2 r3 s0 s1 s2 s3
    go_wp2
    refine bodyPost_ret (msi_results rfl (put4 HZ.out)) rfl ?_
    exact ⟨partT u L2, _, _, rfl, below_put4 HQ3.out hle, ⟨own_put4 HZ.out HOQ.out.1 (by decide), own_put4 HZ.out HOQ.out.2 (by decide)⟩, HLE.out⟩)

end Go.Proofs.YtdkbbknhighebaaGreatDoor

namespace Go.Proofs.YtdkbbknhighebaaGreatDoor
open Go Go.RowKit


theorem kindZero_any (w : World) : Calls Tryz.prog 48 #[.int .i64 0] w fun e w' => e = .returned (.bool true) ∧ w = w' := by
 go_enter Tryz.func48, Tryz.ntmps48
 go_wp2_with fail
 refine (within_any _ _ _ _).mono ?_
 rintro e w' ⟨rfl, rfl⟩
 go_wp2_with fail
 go_ret
 exact ⟨rfl, rfl⟩

set_option maxRecDepth 100000 in
set_option maxHeartbeats 1000000 in
theorem simCodeZero_any (lo lo2 : Nat) (a b : Lts) (la ea lb eb : Value) (w : World) (hva : Valid a) (hvb : Valid b) (hsa : Short20 a.labels) (hsb : Short20 b.labels) (hla : SliceK 1 encS lo w la a.labels) (hea : SliceK 3 encE lo w ea a.edges) (hlb : SliceK 1 encS lo2 w lb b.labels) (heb : SliceK 3 encE lo2 w eb b.edges) (g : Glob w) :
  Calls Tryz.prog 20 #[.agg #[.int .i64 a.states, .int .i64 a.initial, la, ea], .agg #[.int .i64 b.states, .int .i64 b.initial, lb, eb], .int .i64 0] w fun e w' => e = .returned (.int .i64 0) ∧ Below w.heap.size w w' := by
 obtain ⟨ba, hba⟩ : ∃ ba, ba = w.heap.size := ⟨_, rfl⟩
 obtain ⟨bb, hbb⟩ : ∃ bb, bb = w.heap.size + 1 := ⟨_, rfl⟩
 obtain ⟨W, hW⟩ : ∃ W, W = (w.alloc (.cells #[.int .i64 a.states, .int .i64 a.initial, la, ea] 27)).alloc (.cells #[.int .i64 b.states, .int .i64 b.initial, lb, eb] 27) := ⟨_, rfl⟩
 have hb : Below w.heap.size w W := by rw [hW]; exact ((Below.refl _ _).alloc (Nat.le_refl _) _).alloc (by simp) _
 have hB : Blk W bb [.int .i64 b.states, .int .i64 b.initial, lb, eb] 27 := by
  have h := Blk.new (w.alloc (.cells #[.int .i64 a.states, .int .i64 a.initial, la, ea] 27)) [.int .i64 b.states, .int .i64 b.initial, lb, eb] 27
  rw [World.size_alloc, ← hbb] at h
  rw [hW]
  exact h
 have HB := Lib.hid hB
 have HLB := Lib.hid (hlb.below hb)
 have HEB := Lib.hid (heb.below hb)
 have HSB := Lib.hid hsb
 have HVB := Lib.hid hvb
 have HG := Lib.hid (g.below hb)
 have HBW := Lib.hid hb
 have HW := Lib.hid hW
 have HBB := Lib.hid hbb
 have hsW : w.heap.size ≤ W.heap.size := hb.size
 have HA2 : Hid (Calls Tryz.prog 13 #[.agg #[.int .i64 a.states, .int .i64 a.initial, la, ea]] W fun e w' => e = .returned (.bool true) ∧ Below W.heap.size W w') := Valid_yes hva hsa (hla.below hb) (hea.below hb) HG.out
 clear hla hea hlb heb hsa hsb g hba hbb hW hb hB hva hvb
 go_enter Tryz.func20, Tryz.ntmps20
 go_wp2_with fail
 rw [← HW.out]
 refine Calls.mono HA2.out ?_
 rintro e w1 ⟨rfl, hb1⟩
 have HB2 : Hid (Calls Tryz.prog 13 #[.agg #[.int .i64 b.states, .int .i64 b.initial, lb, eb]] w1 fun e w' => e = .returned (.bool true) ∧ Below w1.heap.size w1 w') := Valid_yes HVB.out HSB.out (HLB.out.below hb1) (HEB.out.below hb1) (HG.out.below hb1)
 have t0 := (HB.out.below hb1).cell 0 rfl
 have t1 := (HB.out.below hb1).cell 1 rfl
 have t2 := (HB.out.below hb1).cell 2 rfl
 have t3 := (HB.out.below hb1).cell 3 rfl
 have HB1 := Lib.hid (HBW.out.trans (hb1.mono hsW))
 have hs1 : w.heap.size ≤ w1.heap.size := HB1.out.size
 clear hb1 HA2
 rw [← HBB.out]
 go_wp2_with fail
 refine Calls.mono HB2.out ?_
 rintro e w2 ⟨rfl, hb2⟩
 have HB3 := Lib.hid (HB1.out.trans (hb2.mono hs1))
 have HK := Lib.hid (kindZero_any w2)
 clear hb2 HB2 t0 t1 t2 t3
 go_wp2_with fail
 refine Calls.mono HK.out ?_
 rintro e w3 ⟨rfl, rfl⟩
 clear HK
 go_wp2_with fail
 go_ret
 exact ⟨rfl, HB3.out⟩

set_option maxRecDepth 100000 in
set_option maxHeartbeats 1000000 in
theorem simulates_any (lo : Nat) (a b : Lts) (la ea lb eb : Value) (w : World) (hva : Valid a) (hvb : Valid b) (hlab : a.labels = b.labels) (hle : Le a b a.initial b.initial) (hla : SliceK 1 encS lo w la a.labels) (hea : SliceK 3 encE lo w ea a.edges) (hlb : SliceK 1 encS lo w lb b.labels) (heb : SliceK 3 encE lo w eb b.edges) :
  Calls Tryz.prog 21 #[.agg #[.int .i64 a.states, .int .i64 a.initial, la, ea], .agg #[.int .i64 b.states, .int .i64 b.initial, lb, eb], .int .i64 0] w fun e w' => e = .returned (.bool true) ∧ Below w.heap.size w w' := by
 obtain ⟨ba, hba⟩ : ∃ ba, ba = w.heap.size := ⟨_, rfl⟩
 obtain ⟨bb, hbb⟩ : ∃ bb, bb = w.heap.size + 1 := ⟨_, rfl⟩
 obtain ⟨W, hW⟩ : ∃ W, W = (w.alloc (.cells #[.int .i64 a.states, .int .i64 a.initial, la, ea] 27)).alloc (.cells #[.int .i64 b.states, .int .i64 b.initial, lb, eb] 27) := ⟨_, rfl⟩
 have hb : Below w.heap.size w W := by rw [hW]; exact ((Below.refl _ _).alloc (Nat.le_refl _) _).alloc (by simp) _
 have h0 := hva.st0
 have h1 := hvb.st0
 have HSI := Lib.hid (simulation_any lo a.states.toNat b.states.toNat 0 (ansG a b) a b la ea lb eb W (by decide) (ansG_monoA a b) hva hvb (by omega) (by omega) (hla.below hb) (hea.below hb) (hlb.below hb) (heb.below hb) (fun caps N w' hw' hH x y _ =>
  simulated_plain lo 72 caps N a b la ea lb eb x y w' hva hvb ((hla.below hb).below hw') ((hea.below hb).below hw') ((hlb.below hb).below hw') ((heb.below hb).below hw') (fun args w => by kernel_rfl) hH))
 have HIN : Hid (∀ ps, Great a b (allG a b) (setOf ps) → (a.initial, b.initial) ∈ ps) := fun ps hg => by
  have h := (great_le hva hvb hlab hg).2 ⟨⟨⟨hva.in0, hva.in1⟩, hvb.in0, hvb.in1⟩, hle⟩
  exact of_decide_eq_true h
 have HB := Lib.hid hb
 have HW := Lib.hid hW
 have hsW : w.heap.size ≤ W.heap.size := hb.size
 clear hva hvb hla hea hlb heb h0 h1 hb hba hbb hle hlab hW
 go_enter Tryz.func21, Tryz.ntmps21
 go_wp2_with fail
 rw [← HW.out]
 refine Calls.mono HSI.out ?_
 rintro e w1 ⟨mb, ps, m, rfl, hb1, hm, hg, hi⟩
 have hm0 : m < 0 := hi.2 (HIN.out ps hg.great)
 have HB1 := Lib.hid (HB.out.trans (hb1.mono hsW))
 clear hb1 hm hg hi HSI
 go_wp2
 go_ret
 exact ⟨rfl, HB1.out⟩

set_option maxRecDepth 100000 in
set_option maxHeartbeats 1000000 in
theorem areMutual_any (lo : Nat) (a b : Lts) (la ea lb eb : Value) (w : World) (hva : Valid a) (hvb : Valid b) (hsa : Short20 a.labels) (hlab : b.labels = a.labels) (hle : Le a b a.initial b.initial) (hle2 : Le b a b.initial a.initial) (hla : SliceK 1 encS lo w la a.labels) (hea : SliceK 3 encE lo w ea a.edges) (hlb : SliceK 1 encS lo w lb b.labels) (heb : SliceK 3 encE lo w eb b.edges) (g : Glob w) :
  Calls Tryz.prog 7 #[.agg #[.int .i64 a.states, .int .i64 a.initial, la, ea], .agg #[.int .i64 b.states, .int .i64 b.initial, lb, eb], .int .i64 0] w fun e w' => e = .returned (.tuple #[.bool true, .int .i64 0]) ∧ Below w.heap.size w w' := by
 obtain ⟨ba, hba⟩ : ∃ ba, ba = w.heap.size := ⟨_, rfl⟩
 obtain ⟨bb, hbb⟩ : ∃ bb, bb = w.heap.size + 1 := ⟨_, rfl⟩
 obtain ⟨W, hW⟩ : ∃ W, W = (w.alloc (.cells #[.int .i64 a.states, .int .i64 a.initial, la, ea] 27)).alloc (.cells #[.int .i64 b.states, .int .i64 b.initial, lb, eb] 27) := ⟨_, rfl⟩
 have hb : Below w.heap.size w W := by rw [hW]; exact ((Below.refl _ _).alloc (Nat.le_refl _) _).alloc (by simp) _
 have hA : Blk W ba [.int .i64 a.states, .int .i64 a.initial, la, ea] 27 := by rw [hW, hba]; exact (Blk.new w _ _).alloc _
 have hB : Blk W bb [.int .i64 b.states, .int .i64 b.initial, lb, eb] 27 := by
  have h := Blk.new (w.alloc (.cells #[.int .i64 a.states, .int .i64 a.initial, la, ea] 27)) [.int .i64 b.states, .int .i64 b.initial, lb, eb] 27
  rw [World.size_alloc, ← hbb] at h
  rw [hW]
  exact h
 have HA := Lib.hid hA
 have HB := Lib.hid hB
 have HCD := Lib.hid (simCodeZero_any lo lo a b la ea lb eb W hva hvb hsa (by rw [hlab]; exact hsa) (hla.below hb) (hea.below hb) (hlb.below hb) (heb.below hb) (g.below hb))
 have HS1 : Hid (∀ w', Below W.heap.size W w' → Calls Tryz.prog 21 #[.agg #[.int .i64 a.states, .int .i64 a.initial, la, ea], .agg #[.int .i64 b.states, .int .i64 b.initial, lb, eb], .int .i64 0] w' fun e w'' => e = .returned (.bool true) ∧ Below w'.heap.size w' w'') := fun w' h => simulates_any lo a b la ea lb eb w' hva hvb hlab.symm hle ((hla.below hb).below h) ((hea.below hb).below h) ((hlb.below hb).below h) ((heb.below hb).below h)
 have HS2 : Hid (∀ w', Below W.heap.size W w' → Calls Tryz.prog 21 #[.agg #[.int .i64 b.states, .int .i64 b.initial, lb, eb], .agg #[.int .i64 a.states, .int .i64 a.initial, la, ea], .int .i64 0] w' fun e w'' => e = .returned (.bool true) ∧ Below w'.heap.size w' w'') := fun w' h => simulates_any lo b a lb eb la ea w' hvb hva hlab hle2 ((hlb.below hb).below h) ((heb.below hb).below h) ((hla.below hb).below h) ((hea.below hb).below h)
 have HBW := Lib.hid hb
 have HW := Lib.hid hW
 have HBA := Lib.hid hba
 have HBB := Lib.hid hbb
 have hsW : w.heap.size ≤ W.heap.size := hb.size
 clear hva hvb hsa hlab hle hle2 hla hea hlb heb g hA hB hb hba hbb hW
 go_enter Tryz.func7, Tryz.ntmps7
 go_wp2_with fail
 rw [← HW.out]
 refine Calls.mono HCD.out ?_
 rintro e w1 ⟨rfl, hb1⟩
 rw [← HBB.out, ← HBA.out]
 have HB1 := Lib.hid hb1
 have HC1 := Lib.hid (HS1.out w1 hb1)
 have a0 := (HA.out.below hb1).cell 0 rfl
 have a1 := (HA.out.below hb1).cell 1 rfl
 have a2 := (HA.out.below hb1).cell 2 rfl
 have a3 := (HA.out.below hb1).cell 3 rfl
 have b0 := (HB.out.below hb1).cell 0 rfl
 have b1 := (HB.out.below hb1).cell 1 rfl
 have b2 := (HB.out.below hb1).cell 2 rfl
 have b3 := (HB.out.below hb1).cell 3 rfl
 clear hb1 HCD
 go_wp2_with fail
 refine Calls.mono HC1.out ?_
 rintro e w2 ⟨rfl, hb2⟩
 have HB2 := Lib.hid (HB1.out.trans (hb2.mono HB1.out.size))
 have HC2 := Lib.hid (HS2.out w2 HB2.out)
 clear a0 a1 a2 a3 b0 b1 b2 b3 hb2 HC1
 have a0 := (HA.out.below HB2.out).cell 0 rfl
 have a1 := (HA.out.below HB2.out).cell 1 rfl
 have a2 := (HA.out.below HB2.out).cell 2 rfl
 have a3 := (HA.out.below HB2.out).cell 3 rfl
 have b0 := (HB.out.below HB2.out).cell 0 rfl
 have b1 := (HB.out.below HB2.out).cell 1 rfl
 have b2 := (HB.out.below HB2.out).cell 2 rfl
 have b3 := (HB.out.below HB2.out).cell 3 rfl
 go_wp2_with fail
 refine Calls.mono HC2.out ?_
 rintro e w3 ⟨rfl, hb3⟩
 have HB3 := Lib.hid (HBW.out.trans ((HB2.out.trans (hb3.mono HB2.out.size)).mono hsW))
 clear a0 a1 a2 a3 b0 b1 b2 b3 hb3 HC2
 go_wp2
 refine bodyPost_ret (results_tmp2 rfl _ _ _) rfl ?_
 exact ⟨rfl, HB3.out⟩

end Go.Proofs.YtdkbbknhighebaaGreatDoor
