/-
  The reference's l14Table.
  The reference's DistinguishingFormula.
  The program's WeakFormula.
  The reference's l02Close: the closure of a matrix in place.
  The reference's l17Targets: weak simulations.
  The reference's l16Still: the internal steps between all states.
-/
import Derived.Test.YtjoacldbgnphkaaGreatDoorE9
import Derived.Test.YtjoacldbgnphkaaGreatDoorE20
import Derived.StillTailTactics
import Derived.Test.YtjoacldbgnphkaaGreatDoorE17
import Derived.Test.YtjoacldbgnphkaaGreatDoorE3
import Derived.Test.YtjoacldbgnphkaaGreatDoorE19
import Derived.Test.YtjoacldbgnphkaaGreatDoorE12
import Derived.Test.YtjoacldbgnphkaaGreatDoorE7
import Derived.BigRegion
namespace Go.Proofs.YtjoacldbgnphkaaGreatDoor
open Go Go.RowKit


set_option maxRecDepth 100000 in
set_option maxHeartbeats 4000000 in
theorem table14_any (bt lo lo2 S : Nat) (t : Lts) (vv : Value) (w : World) (hv : Valid t) (hS : (S : Int) = t.states) (hp : LtsPtr lo w bt t) (hvs : IntssAt lo2 w vv (levs t)) :
  Calls Tryz.prog 22 #[.pointer (some ⟨bt, 0, none⟩), vv] w fun e w' => ∃ ta N, N = S * S ∧ e = .returned (.slice (some ⟨ta, 0, none⟩) N N) ∧ Below w.heap.size w w' ∧ TabR w' (.slice (some ⟨ta, 0, none⟩) N N) S t (lastR t) := by
 have HV := Lib.hid hv
 have HP := Lib.hid hp
 have HSS := Lib.hid hS
 have HAT := Lib.hid hvs
 have hlast := (last_ok hv).1
 have hs0 := hv.st0
 have hs1 := hv.st1
 obtain ⟨la, lc, hve⟩ : ∃ la lc, vv = .slice la (lastR t + 1) lc := by
  obtain ⟨vs, hl, ⟨a, c, rfl, -⟩, -⟩ := hvs
  rw [levs_len] at hl
  exact ⟨a, c, by rw [hl]⟩
 subst hve
 have hS40 : S ≤ 40 := by omega
 have hS1 : 1 ≤ S := by omega
 obtain ⟨N, hN⟩ : ∃ N : Nat, N = S * S := ⟨_, rfl⟩
 have hNi : (S : Int) * (S : Int) = (N : Int) := by rw [hN]; simp
 have hN2 : N ≤ 1600 := by rw [hN]; exact Nat.le_trans (Nat.mul_le_mul hS40 hS40) (by decide)
 obtain ⟨L, hL⟩ : ∃ L, L = lastR t := ⟨_, rfl⟩
 rw [← hL] at hlast HAT ⊢
 have hL40 : L < 40 := by omega
 have HLL := Lib.hid hL
 have HNN := Lib.hid hN
 obtain ⟨lv, ev, hpl, q0, -⟩ := hp
 rw [← hS] at q0
 have HQ0 := Lib.hid q0
 have HAP : Hid (∀ (a b : Nat) (w' : World), a < S → b < S → Below w.heap.size w w' → Calls Tryz.prog 21 #[.slice la (L + 1) lc, .int .i64 a, .int .i64 b] w' fun e w'' => e = .returned (.int .i64 (sepR t a b)) ∧ Below w'.heap.size w' w'') := fun a b w' ha hb hw => by
  have h := apart_any lo2 S t (.slice la (L + 1) lc) a b w' HV.out HSS.out (by have := HSS.out; omega) (by have := HSS.out; omega) (HAT.out.below hw)
  exact h
 have HTE : Hid (∀ (tv : Value) (a b k : Nat) (w' : World), a < S → b < S → Below w.heap.size w w' → sepR t a b = k + 1 → TabR w' tv S t k → Calls Tryz.prog 40 #[.pointer (some ⟨bt, 0, none⟩), .slice la (L + 1) lc, tv, .int .i64 a, .int .i64 b] w' fun e w'' => ∃ v, e = .returned v ∧ Below w'.heap.size w' w'' ∧ FormO w'.heap.size w'' v (tellT t a b)) := fun tv a b k w' ha hb hw hk ht =>
  tell14_any bt lo lo2 S k t (.slice la (L + 1) lc) tv a b w' HV.out HSS.out (by have := HSS.out; omega) (by have := HSS.out; omega) (HP.out.below hw) (HAT.out.below hw) hk ht
 obtain ⟨i2, hi2, hz20, hz21, hz22⟩ := info_parts info_nodesR
 clear hv hS hvs hs0 hs1 hL hN hlast
 go_enter Tryz.func22, Tryz.ntmps22
 go_wp2
 go_still_tail 9, (by kernel_rfl)
 have hwN : IntKind.i64.wrap (N : Int) = (N : Int) := IntWalk.i64_in _ (by omega)
 refine wpList_make_full _ rfl _ _ 47 rfl w.heap.size 27 i2 _ 1 Tryz.underlying47 hi2 hz20 hz21 .i64 .i64 _ _ N rfl rfl hwN hwN ?_ ?_ ?_ ?_
 ·rw [hz22]; omega
 ·simp [maxLen]; omega
 ·exact Nat.le_refl _
 intro w1 ho hg
 have hb1 : Below w.heap.size w w1 := ((Below.refl _ w).drew).grown hg (Nat.le_refl _) (fun _ h => by cases h)
 have hs1 : w.heap.size < w1.heap.size := (ho.lt _ rfl).2
 have hmk : (madeCells (Value.slice none 0 0).cells (N * 1)).toList = List.replicate N (.slice none 0 0) := by rw [Nat.mul_one]; exact toList_madeCells_one _ _
 have HT1 : Hid (TabO w.heap.size w1 w.heap.size S N t 1 0 0 (List.replicate N (.slice none 0 0))) := TabO.start HNN.out (by rw [← hmk]; exact ho)
 have hta1 : w.heap.size < w1.heap.size := hs1
 clear hmk ho hg hs1 q0
 have HB1 := Lib.hid hb1
 clear hb1
 go_wp2
 go_loopw [6] (fun v6 wr => ∃ (k : Nat) (hs : List Value), 1 ≤ k ∧ k ≤ L + 1 ∧ v6 = .int .i64 k ∧ Below w.heap.size w wr ∧ w.heap.size < wr.heap.size ∧ TabO w.heap.size wr w.heap.size S N t k 0 0 hs) (fun v6 _ => L + 1 - (intOf v6).toNat)
 case atStart => exact ⟨1, _, Nat.le_refl _, by omega, rfl, HB1.out, hta1, HT1.out⟩
 case round =>
  clear HB1 HT1 hta1
  obtain ⟨k, hs, hk1, hk, rfl, hbl, htl, hto⟩ := hrel
  obtain ⟨wC, rfl⟩ : ∃ wC : World, wC = wr := ⟨_, rfl⟩
  have HBC := Lib.hid hbl
  have HTC := Lib.hid hto
  clear hbl hto
  by_cases hlk : k < L + 1
  ·have hgk : decide ((k : Int) < (L : Int) + 1) = true := decide_eq_true (by omega)
   go_wp2
   go_loopw [7] (fun v7 wr => ∃ (a : Nat) (hs : List Value), a ≤ S ∧ v7 = .int .i64 a ∧ Below w.heap.size w wr ∧ w.heap.size < wr.heap.size ∧ TabO w.heap.size wr w.heap.size S N t k a 0 hs) (fun v7 _ => S - (intOf v7).toNat)
   case atStart => exact ⟨0, _, Nat.zero_le _, rfl, HBC.out, htl, HTC.out⟩
   case round =>
    clear HBC HTC htl
    obtain ⟨a, hs, haS, rfl, hbl, htl, hto⟩ := hrel
    obtain ⟨wD, rfl⟩ : ∃ wD : World, wD = wr := ⟨_, rfl⟩
    have HBD := Lib.hid hbl
    have HTD := Lib.hid hto
    have q0 := keeps hbl hpl HQ0.out
    clear hbl hto
    by_cases hla : a < S
    ·go_wp2
     clear q0
     go_loopw [8] (fun v8 wr => ∃ (b : Nat) (hs : List Value), b ≤ S ∧ v8 = .int .i64 b ∧ Below w.heap.size w wr ∧ w.heap.size < wr.heap.size ∧ TabO w.heap.size wr w.heap.size S N t k a b hs) (fun v8 _ => S - (intOf v8).toNat)
     case atStart => exact ⟨0, _, Nat.zero_le _, rfl, HBD.out, htl, HTD.out⟩
     case round =>
      clear HBD HTD htl
      obtain ⟨b, hs, hbS, rfl, hbl, htl, hto⟩ := hrel
      obtain ⟨wE, rfl⟩ : ∃ wE : World, wE = wr := ⟨_, rfl⟩
      have HBE := Lib.hid hbl
      have HTE2 := Lib.hid hto
      have q0 := keeps hbl hpl HQ0.out
      have hszE := hbl.size
      clear hbl hto
      by_cases hlb : b < S
      ·have HAC := Lib.hid (HAP.out a b wE hla hlb HBE.out)
       go_wp2_with fail
       refine Calls.mono HAC.out ?_
       rintro e wF ⟨rfl, hbF⟩
       have HBF : Hid (Below w.heap.size w wF) := HBE.out.trans (hbF.mono hszE)
       have HTF := Lib.hid (HTE2.out.below hbF)
       have htF : w.heap.size < wF.heap.size := Nat.lt_of_lt_of_le htl hbF.size
       have q0 := keeps HBF.out hpl HQ0.out
       obtain ⟨sp, hsp⟩ : ∃ sp, sp = sepR t a b := ⟨_, rfl⟩
       rw [← hsp]
       have HSP := Lib.hid hsp
       clear hbF hsp HAC HTE2 HBE htl
       by_cases hsk : sp = k
       ·have hgd : ((sp : Int) == (k : Int)) = true := by rw [beq_iff_eq]; omega
        obtain ⟨P, hP⟩ : ∃ P : Nat, P = a * S := ⟨_, rfl⟩
        have hmi : (a : Int) * (S : Int) = (P : Int) := by rw [hP]; simp
        have hP16 : P + b < N := by rw [hP, HNN.out]; exact place_ltM hla hlb
        have HIX : Hid (P + b = a * S + b) := by unfold Hid; rw [hP]
        obtain ⟨k', hk'⟩ : ∃ k', k = k' + 1 := ⟨k - 1, by omega⟩
        have HCT := Lib.hid (HTE.out (.slice (some ⟨w.heap.size, 0, none⟩) N N) a b k' wF.drew hla hlb HBF.out.drew (by rw [← HSP.out, hsk, hk']) (by have h := HTF.out; rw [hk'] at h; exact (h.below (Below.refl _ _).drew).tab htF))
        have hln := HTF.out.len
        have hixh : P + b < hs.length := by omega
        have HFR := Lib.hid (fun (w' : World) (hb : Below wF.heap.size wF w') => ((HTF.out.below hb).own.frozenAt (P + b)))
        have HCE := Lib.hid (fun (w' : World) (hb : Below wF.heap.size wF w') => ((HTF.out.below hb).cell hixh))
        have hneT : bt ≠ w.heap.size := by omega
        have hwP : IntKind.i64.wrap (P : Int) = (P : Int) := IntWalk.i64_in _ (by omega)
        have hwQ : IntKind.i64.wrap ((P : Int) + (b : Int)) = (P : Int) + (b : Int) := IntWalk.i64_in _ (by omega)
        have hj0 : (0 : Int) ≤ (P : Int) + (b : Int) := by omega
        have hj1 : (P : Int) + (b : Int) < (N : Int) := by omega
        have hj2 : ((P : Int) + (b : Int)).toNat = P + b := by omega
        clear hP hsk hk' hln
        have hDr : Below wF.heap.size wF wF.drew := (Below.refl _ _).drew
        have HQF := Lib.hid (fun (w' : World) (hb : Below wF.heap.size wF w') => keeps (HBF.out.trans (hb.mono HBF.out.size)) hpl HQ0.out)
        have q0d := HQF.out _ hDr
        have HSF : Hid (w.heap.size ≤ wF.heap.size) := HBF.out.size
        go_wp2_with fail
        go_region_held3 (fun w' => w'.cell? ⟨bt, 0, none⟩ = some (.int .i64 S))
         (first
          | with_reducible exact q0
          | with_reducible exact q0d
          | with_reducible exact q0e
          | with_reducible exact q0f
          | go_keep)
         (first
          | (go_at_call 40; refine Calls.mono HCT.out ?_; rintro e wG ⟨v, rfl, hbG, hfo⟩; obtain ⟨fa, fc, rfl⟩ := hfo.slice; have hbG2 : Below wF.heap.size wF wG := hDr.trans (hbG.mono hDr.size); have q0e := HQF.out wG hbG2; have ce := HCE.out wG hbG2; have fe := HFR.out wG hbG2; have q0f : (wG.setCell ⟨w.heap.size, P + b, none⟩ (.slice fa (tellT t a b).length fc)).cell? ⟨bt, 0, none⟩ = some (.int .i64 S) := (World.cell?_setCell_far _ _ _ _ (fun e => hneT e.symm)).trans q0e)
          | fail)
        have HPUT : Hid (TabO w.heap.size (wG.setCell ⟨w.heap.size, P + b, none⟩ (.slice fa (tellT t a b).length fc)) w.heap.size S N t k a (b + 1) (hs.set (P + b) (.slice fa (tellT t a b).length fc))) := HTF.out.put hbG2 hla hlb (hfo.at.mono (show w.heap.size + 1 ≤ wF.drew.heap.size from htF)) HIX.out
        have HBG : Hid (Below w.heap.size w (wG.setCell ⟨w.heap.size, P + b, none⟩ (.slice fa (tellT t a b).length fc))) := (HBF.out.trans (hbG2.mono HSF.out)).setCell (by exact Nat.le_refl _) _
        have htG : w.heap.size < (wG.setCell ⟨w.heap.size, P + b, none⟩ (.slice fa (tellT t a b).length fc)).heap.size := by rw [World.size_setCell]; exact Nat.lt_of_lt_of_le htF hbG2.size
        clear hfo hbG hbG2 ce fe q0e q0f hwP hwQ hDr q0d hj0 hj1 hj2
        go_wp2
        go_roundw
        case rel => exact ⟨b + 1, _, by omega, by go_num, HBG.out, htG, HPUT.out⟩
        case measure => simp [intOf]; omega
       ·have hgd : ((sp : Int) == (k : Int)) = false := by rw [beq_eq_false_iff_ne]; omega
        have HTN : Hid (TabO w.heap.size wF w.heap.size S N t k a (b + 1) hs) := HTF.out.skip (by rw [← HSP.out]; exact hsk)
        clear hsk
        go_wp2
        go_roundw
        case rel => exact ⟨b + 1, hs, by omega, by go_num, HBF.out, htF, HTN.out⟩
        case measure => simp [intOf]; omega
      ·have hbe : b = S := by omega
       have HTN : Hid (TabO w.heap.size wE w.heap.size S N t k (a + 1) 0 hs) := by
        have h := HTE2.out
        rw [hbe] at h
        exact h.nextA
       clear hbe
       go_wp2
       go_roundw
       case rel => exact ⟨a + 1, hs, by omega, by go_num, HBE.out, htl, HTN.out⟩
       case measure => simp [intOf]; omega
    ·have hae : a = S := by omega
     have HTN : Hid (TabO w.heap.size wD w.heap.size S N t (k + 1) 0 0 hs) := by
      have h := HTD.out
      rw [hae] at h
      exact h.nextK
     clear hae
     go_wp2
     go_roundw
     case rel => exact ⟨k + 1, hs, by omega, by omega, by go_num, HBD.out, htl, HTN.out⟩
     case measure => simp [intOf]; omega
  ·have hke : k = L + 1 := by omega
   have HRES : Hid (TabR wC (.slice (some ⟨w.heap.size, 0, none⟩) N N) S t L) := by
    have h := HTC.out
    rw [hke] at h
    exact h.tab htl
   clear hke
   go_wp2
   go_ret
   exact ⟨_, N, HNN.out, rfl, HBC.out, HRES.out⟩

end Go.Proofs.YtjoacldbgnphkaaGreatDoor

namespace Go.Proofs.YtjoacldbgnphkaaGreatDoor
open Go Go.RowKit


theorem two_iff {t : Lts} {a b : Int} : (inB a 0 (t.states - 1) && inB b 0 (t.states - 1)) = true ↔ (0 ≤ a ∧ a < t.states) ∧ (0 ≤ b ∧ b < t.states) := by
 rw [Bool.and_eq_true, inB_iff, inB_iff]
 omega

set_option maxRecDepth 100000 in
set_option maxHeartbeats 4000000 in
theorem specDistinguishingFormula_any (lo : Nat) (t : Lts) (lv ev : Value) (a b : Int) (w : World) (hsh : Short t.labels) (hl : SliceK 1 encS lo w lv t.labels) (he : SliceK 3 encE lo w ev t.edges) :
  Calls Tryz.prog 6 #[.agg #[.int .i64 t.states, .int .i64 t.initial, lv, ev], .int .i64 a, .int .i64 b] w (RetDf t a b w) := by
 obtain ⟨tb, htb⟩ : ∃ tb, tb = w.heap.size := ⟨_, rfl⟩
 obtain ⟨wA, hwA⟩ : ∃ wA, wA = w.alloc (.cells #[.int .i64 t.states, .int .i64 t.initial, lv, ev] 32) := ⟨_, rfl⟩
 have hbA : Below w.heap.size w wA := by rw [hwA]; exact (Below.refl _ _).alloc (Nat.le_refl _) _
 have hT : Blk wA tb [.int .i64 t.states, .int .i64 t.initial, lv, ev] 32 := by rw [hwA, htb]; exact Blk.new w _ _
 have HSH := Lib.hid hsh
 have HP : Hid (LtsPtr lo wA tb t) := ⟨lv, ev, hT.lt, hT.cell 0 rfl, hT.cell 1 rfl, hT.cell 2 rfl, hT.cell 3 rfl, hl.below hbA, he.below hbA⟩
 have HBA := Lib.hid hbA
 have HT := Lib.hid hT
 have HWA := Lib.hid hwA
 have HTB := Lib.hid htb
 have hsW : w.heap.size ≤ wA.heap.size := hbA.size
 clear hsh hl he hwA hbA hT htb
 by_cases hv : Valid t
 ·have HV := Lib.hid hv
  have HVA : Hid (Calls Tryz.prog 18 #[.pointer (some ⟨tb, 0, none⟩)] wA fun e w' => e = .returned (.bool true) ∧ Below wA.heap.size wA w') := Decides.yes (l11Is_any _ lo t _ HSH.out HP.out) hv
  obtain ⟨S, hS⟩ : ∃ S : Nat, (S : Int) = t.states := ⟨t.states.toNat, by have := hv.st0; omega⟩
  have HSS := Lib.hid hS
  have hS40 : S ≤ 40 := by have := hv.st1; omega
  clear hS
  clear hv
  go_enter Tryz.func6, Tryz.ntmps6
  go_wp2_with fail
  rw [← HWA.out, ← HTB.out]
  refine Calls.mono HVA.out ?_
  rintro e w1 ⟨rfl, hb1⟩
  have HB1 : Hid (Below w.heap.size w w1) := HBA.out.trans (hb1.mono hsW)
  have HP1 := Lib.hid (HP.out.below hb1)
  have HT1 := Lib.hid (HT.out.below hb1)
  have HTW := Lib.hid (two_any tb lo t a b w1 HV.out HP1.out)
  have hs1 : w.heap.size ≤ w1.heap.size := HB1.out.size
  clear hb1 HVA
  obtain ⟨tw, htw⟩ : ∃ tw, tw = (inB a 0 (t.states - 1) && inB b 0 (t.states - 1)) := ⟨_, rfl⟩
  rw [← htw] at HTW
  have HTI := Lib.hid htw
  clear htw
  go_wp2_with fail
  refine Calls.mono HTW.out ?_
  rintro e w1' ⟨rfl, rfl⟩
  cases tw
  ·go_wp2
   refine bodyPost_ret (results_tmp2 rfl _ _ _) rfl ?_
   exact df_none HB1.out (.inr (.inl ⟨HV.out, (fun h => by have h1 := two_iff.2 h; rw [← HTI.out] at h1; cases h1), rfl, rfl⟩))
  ·have hab := two_iff.1 HTI.out.symm
   have HAB := Lib.hid hab
   have HLV := Lib.hid (levels_any tb lo S t w1 HV.out HSS.out HP1.out)
   obtain ⟨A, hA⟩ : ∃ A : Nat, (A : Int) = a := ⟨a.toNat, by omega⟩
   obtain ⟨B, hB⟩ : ∃ B : Nat, (B : Int) = b := ⟨b.toNat, by omega⟩
   subst hA hB
   have hAS : A < S := by have := HSS.out; omega
   have hBS : B < S := by have := HSS.out; omega
   clear hab HTW
   go_wp2_with fail
   refine Calls.mono HLV.out ?_
   rintro e w2 ⟨v, vs, rfl, hb2, ho2⟩
   have hlv := ho2.at
   obtain ⟨la, lc, rfl, -, -⟩ := owns_slice ho2.2.1
   obtain ⟨VL, hVL⟩ : ∃ VL, VL = vs.length := ⟨_, rfl⟩
   rw [← hVL] at hlv ⊢
   clear hVL
   have HB2 : Hid (Below w.heap.size w w2) := HB1.out.trans (hb2.mono hs1)
   have HP2 := Lib.hid (HP1.out.below hb2)
   have HT2 := Lib.hid (HT1.out.below hb2)
   have HLE := Lib.hid hlv
   have HAP := Lib.hid (apart_any _ S t _ A B w2 HV.out HSS.out HAB.out.1 HAB.out.2 hlv)
   have hs2 : w.heap.size ≤ w2.heap.size := HB2.out.size
   obtain ⟨sp, hsp⟩ : ∃ sp, sp = sepR t A B := ⟨_, rfl⟩
   rw [← hsp] at HAP
   have HSP := Lib.hid hsp
   clear hb2 ho2 hlv hsp HLV HB1 HP1 HT1
   go_wp2_with fail
   refine Calls.mono HAP.out ?_
   rintro e w3 ⟨rfl, hb3⟩
   have HB3 : Hid (Below w.heap.size w w3) := HB2.out.trans (hb3.mono hs2)
   have HP3 := Lib.hid (HP2.out.below hb3)
   have HT3 := Lib.hid (HT2.out.below hb3)
   have HL3 := Lib.hid (HLE.out.below hb3)
   have hs3 : w.heap.size ≤ w3.heap.size := HB3.out.size
   clear hb3 HAP HB2 HP2 HT2 HLE
   by_cases hsp0 : sp = 0
   ·have hgd : ((sp : Int) == 0) = true := by rw [beq_iff_eq]; omega
    have HRS : Hid (DfIs t A B [] 3) := .inr (.inr ⟨HV.out, HAB.out, .inl ⟨by rw [← HSP.out]; exact hsp0, rfl, rfl⟩⟩)
    clear hsp0
    go_wp2
    refine bodyPost_ret (results_tmp2 rfl _ _ _) rfl ?_
    exact df_none HB3.out HRS.out
   ·have hgd : ((sp : Int) == 0) = false := by rw [beq_eq_false_iff_ne]; omega
    have HSP0 : Hid (0 < sepR t A B) := by have := HSP.out; unfold Hid; omega
    have HSL : Hid (sepR t A B ≤ lastR t) := by
     unfold Hid
     obtain ⟨d, hd⟩ : ∃ d, sepR t A B = d + 1 := ⟨sepR t A B - 1, by have := HSP0.out; omega⟩
     rw [hd]
     exact (sep_pos hd).1
    have hDr : Below w3.heap.size w3 w3.drew := (Below.refl _ _).drew
    have HTC := Lib.hid (table14_any tb lo _ S t (.slice la VL lc) w3.drew HV.out HSS.out (HP3.out.below hDr) (HL3.out.below hDr))
    have t0 := HT3.out.cell 0 rfl
    rw [← HSS.out] at t0
    have htl3 := HT3.out.lt
    have t0d : w3.drew.cell? ⟨tb, 0, none⟩ = some (.int .i64 S) := keeps hDr htl3 t0
    obtain ⟨P, hP⟩ : ∃ P : Nat, P = A * S := ⟨_, rfl⟩
    have hmi : (A : Int) * (S : Int) = (P : Int) := by rw [hP]; simp
    have hP16 : P ≤ 1600 := by rw [hP]; exact Nat.le_trans (Nat.mul_le_mul (show A ≤ 40 by omega) hS40) (by decide)
    have HPX : Hid (P = A * S) := hP
    clear hsp0 hP
    have hPB : P + B ≤ 1700 := by omega
    have hwP : IntKind.i64.wrap (P : Int) = (P : Int) := IntWalk.i64_in _ (by omega)
    have hwQ : IntKind.i64.wrap ((P : Int) + (B : Int)) = (P : Int) + (B : Int) := IntWalk.i64_in _ (by omega)
    have HMI := Lib.hid hmi
    obtain ⟨i4, hi4, hz40, hz41, hz42⟩ := info_parts info_nodeR
    go_wp2_with fail
    go_region_law
     (go_simp; go_at_call 22; refine Calls.mono HTC.out ?_; rintro e w4 ⟨ta, N, -, rfl, hb4, htab⟩; have hb34 : Below w3.heap.size w3 w4 := hDr.trans (hb4.mono hDr.size); have k1 := keeps hb34 htl3 t0; obtain ⟨xn, yn, P', v, hxn, hyn, -, -, hmi', -, hix, htl, hcell, hsl⟩ := htab.at hS40 (x := A) (y := B) (by omega) (by omega) HSP0.out HSL.out; have hxA : xn = A := (by omega); have hyB : yn = B := (by omega); subst hxA hyB; have hPP : P' = P := (by have := HMI.out; omega); subst hPP; obtain ⟨fa, fc, rfl, hfn, hfm, -⟩ := id hsl; have hj0 : (0 : Int) ≤ (P' : Int) + (yn : Int) := (by omega); have hj1 : (P' : Int) + (yn : Int) < (N : Int) := (by omega); have hj2 : ((P' : Int) + (yn : Int)).toNat = P' + yn := (by omega))
    all_goals (
     obtain ⟨F, hF⟩ : ∃ F, F = tellT t xn yn := ⟨_, rfl⟩
     rw [← hF] at hsl hfn ⊢
     have HF := Lib.hid hF
     have HSLF := Lib.hid hsl
     have HFN : Hid (F = [] → DfIs t xn yn [] 5) := fun h => .inr (.inr ⟨HV.out, HAB.out, .inr (.inl ⟨HSP0.out, by rw [← HF.out]; exact h, rfl, rfl⟩)⟩)
     have HFY : Hid (F ≠ [] → DfIs t xn yn F 0) := fun h => .inr (.inr ⟨HV.out, HAB.out, .inr (.inr ⟨HSP0.out, by rw [← HF.out]; exact h, HF.out, rfl⟩)⟩)
     have hF2 : F.length ≤ 200 := by rw [hF]; exact tellT_short t _ _
     obtain ⟨FL, hFL⟩ : ∃ FL, FL = F.length := ⟨_, rfl⟩
     rw [← hFL] at hfn hF2 ⊢
     have HFL := Lib.hid hFL
     have HB4 : Hid (Below w.heap.size w w4) := HB3.out.trans (hb34.mono hs3)
     have hs4 : w.heap.size ≤ w4.heap.size := HB4.out.size
     clear hF hsl hFL hb34 hb4 htab hcell hix htl k1 hj0 hj1 hj2 hwP hwQ hmi hmi' t0 t0d hxn hyn HTC hDr
     by_cases h0 : FL = 0
     ·have hz : ((FL : Int) == 0) = true := by rw [beq_iff_eq]; omega
      have HRS := Lib.hid (HFN.out (List.length_eq_zero_iff.1 (by rw [← HFL.out]; exact h0)))
      clear h0
      go_wp2
      refine bodyPost_ret (results_tmp2 rfl _ _ _) rfl ?_
      exact df_none HB4.out HRS.out
     ·have hz : ((FL : Int) == 0) = false := by rw [beq_eq_false_iff_ne]; omega
      have hne : F ≠ [] := fun e => h0 (by rw [HFL.out, e]; rfl)
      have HRS := Lib.hid (HFY.out hne)
      obtain ⟨bq, oq, cq, hqe, -, hqb, hqc⟩ := form_cells HSLF.out hne
      rw [← HFL.out] at hqe
      simp only [Value.slice.injEq, true_and] at hqe
      obtain ⟨rfl, rfl⟩ := hqe
      have HFL4 : Hid ((F.flatMap encN).length = FL * 4) := by unfold Hid; rw [flatN_len, ← HFL.out]
      obtain ⟨WE, hWE⟩ : ∃ WE, WE = w4.alloc (.cells #[] 55) := ⟨_, rfl⟩
      have hal : Below w4.heap.size w4 WE := by rw [hWE]; exact (Below.refl _ _).alloc (Nat.le_refl _) _
      have HOE : Hid (WE.ownsRow w.heap.size 55 4 (.slice (some ⟨w4.heap.size, 0, none⟩) 0 0) 0 []) := by
       have h := World.ownsRow_lit (base := w.heap.size) (size := 4) w4 #[] (e := 55) 0 hs4 (by simp [maxLen]) rfl
       rw [← hWE] at h
       exact h
      have HQC := Lib.hid (news_below hqb hqc hal)
      have HBE : Hid (Below w.heap.size w WE) := HB4.out.trans (hal.mono hs4)
      have hsE := HBE.out.size
      have HWE := Lib.hid hWE
      have hFL1 : 0 < FL := by omega
      clear hWE hal hqc hne h0
      go_wp2_with (at_builtin; rw [← HWE.out]; refine wpList_append_lies _ rfl _ _ 27 rfl w.heap.size 55 i4 _ 4 40 Tryz.underlying27 hi4 hz40 hz41 hz42 rfl (by decide) _ _ _ rfl HOE.out ⟨bq, oq, none⟩ FL fc (F.flatMap encN) rfl ?d1 HQC.out (flatN_one _) ?d3 ?d4 ?d5 ?d6 _ rfl ?_)
      case d1 => exact HFL4.out
      case d3 => exact hFL1
      case d4 => simp [maxLen]; omega
      case d5 => omega
      case d6 => exact hsE
      intro g9 c9 w9 ho9 hg9 hat9 hlt9
      have HB9 : Hid (Below w.heap.size w w9) := HBE.out.grown hg9 hsE (fun b e => (HOE.out.lt b e).1)
      have HO9 : Hid (FormO w.heap.size w9 (.slice (some ⟨g9, 0, none⟩) (0 + FL) c9) F) := by
       unfold Hid FormO
       rw [← HFL.out]
       simpa using ho9
      clear ho9 hg9 hat9 hlt9
      go_wp2
      refine bodyPost_ret (results_tmp2 rfl _ _ _) rfl ?_
      exact ⟨HB9.out, F, 0, _, rfl, HRS.out, by simpa using HO9.out⟩)
 ·have HVA : Hid (Calls Tryz.prog 18 #[.pointer (some ⟨tb, 0, none⟩)] wA fun e w' => e = .returned (.bool false) ∧ Below wA.heap.size wA w') := Decides.no (l11Is_any _ lo t _ HSH.out HP.out) hv
  have HV := Lib.hid hv
  clear hv
  go_enter Tryz.func6, Tryz.ntmps6
  go_wp2_with fail
  rw [← HWA.out, ← HTB.out]
  refine Calls.mono HVA.out ?_
  rintro e w1 ⟨rfl, hb1⟩
  have HB1 : Hid (Below w.heap.size w w1) := HBA.out.trans (hb1.mono hsW)
  clear hb1 HVA
  go_wp2
  refine bodyPost_ret (results_tmp2 rfl _ _ _) rfl ?_
  exact df_none HB1.out (.inl ⟨HV.out, rfl, rfl⟩)

end Go.Proofs.YtjoacldbgnphkaaGreatDoor

namespace Go.Proofs.YtjoacldbgnphkaaGreatDoor
open Go Go.RowKit


set_option maxRecDepth 100000 in
set_option maxHeartbeats 4000000 in
theorem implWeakFormula_any (lo : Nat) (t : Lts) (lv ev : Value) (a b : Int) (w : World) (hsh : Short20 t.labels) (hl : SliceK 1 encS lo w lv t.labels) (he : SliceK 3 encE lo w ev t.edges) (g : Glob w) :
  Calls Tryz.prog 15 #[.agg #[.int .i64 t.states, .int .i64 t.initial, lv, ev], .int .i64 a, .int .i64 b] w (RetWf t a b w) := by
 obtain ⟨tb, htb⟩ : ∃ tb, tb = w.heap.size := ⟨_, rfl⟩
 obtain ⟨wA, hwA⟩ : ∃ wA, wA = w.alloc (.cells #[.int .i64 t.states, .int .i64 t.initial, lv, ev] 32) := ⟨_, rfl⟩
 have hbA : Below w.heap.size w wA := by rw [hwA]; exact (Below.refl _ _).alloc (Nat.le_refl _) _
 have hT : Blk wA tb [.int .i64 t.states, .int .i64 t.initial, lv, ev] 32 := by rw [hwA, htb]; exact Blk.new w _ _
 have hsA := hbA.size
 obtain ⟨wB, hwB⟩ : ∃ wB, wB = wA.alloc (.cells #[.int .i64 a, .int .i64 b] 2) := ⟨_, rfl⟩
 have hbB : Below wA.heap.size wA wB := by rw [hwB]; exact (Below.refl _ _).alloc (Nat.le_refl _) _
 have hbw : Below w.heap.size w wB := hbA.trans (hbB.mono hsA)
 have hlit : wB.ownsRow wA.heap.size 2 1 (.slice (some ⟨wA.heap.size, 0, none⟩) 2 2) 2 [.int .i64 a, .int .i64 b] := by rw [hwB]; exact World.ownsRow_lit (size := 1) wA #[.int .i64 a, .int .i64 b] 2 (Nat.le_refl _) (by decide) rfl
 have hx : SliceK 1 encI wA.heap.size wB (.slice (some ⟨wA.heap.size, 0, none⟩) 2 2) [a, b] := SliceK.of_owns (enc := encI) (e := 2) encI_len rfl (by rw [flat_encI]; exact hlit)
 have hzA : wA.heap.size = tb + 1 := by rw [hwA, htb]; simp
 rw [hzA] at hx
 have HSC := Lib.hid (statesCode_any lo (tb + 1) t lv ev _ [a, b] wB hsh (hl.below hbw) (he.below hbw) hx (g.below hbw))
 have HBW := Lib.hid hbw
 have hsw := hbw.size
 have HT := Lib.hid (hT.below hbB)
 have x0 := hT.cell 0 rfl
 have x1 := hT.cell 1 rfl
 have x2 := hT.cell 2 rfl
 have x3 := hT.cell 3 rfl
 have HSH := Lib.hid hsh
 have HL := Lib.hid hl
 have HE := Lib.hid he
 have HG := Lib.hid g
 have HWA := Lib.hid hwA
 have HWB := Lib.hid hwB
 have HTB := Lib.hid htb
 clear hsh hl he g hwA hwB htb hbA hbB hbw hlit hx hT hzA
 go_enter Tryz.func15, Tryz.ntmps15
 go_wp2_with fail
 (try rw [← HWA.out])
 (try rw [← HTB.out])
 (try rw [← HWB.out])
 refine Calls.mono HSC.out ?_
 rintro e w1 ⟨hb1, c, rfl, hc⟩
 have HB1 : Hid (Below w.heap.size w w1) := HBW.out.trans (hb1.mono hsw)
 have hs1 : w.heap.size ≤ w1.heap.size := HB1.out.size
 have hT1 := HT.out.below hb1
 have hab : outB t [a, b] = !(inB a 0 (t.states - 1) && inB b 0 (t.states - 1)) := by
  simp only [outB, List.any_cons, List.any_nil, Bool.or_false, Bool.not_and]
 rcases hc with ⟨hv, rfl⟩ | ⟨hv, ho, rfl⟩ | ⟨hv, ho, rfl⟩
 ·have HRS : Hid (RetWf t a b w (.returned (.tuple #[.slice none 0 0, .int .i64 1])) w1) := wf_none HB1.out (.inl ⟨hv, rfl, rfl⟩)
  clear hb1 hT1 hab hv HSC
  go_wp2
  refine bodyPost_ret (results_tmp2 rfl _ _ _) rfl ?_
  exact HRS.out
 ·have HRS : Hid (RetWf t a b w (.returned (.tuple #[.slice none 0 0, .int .i64 2])) w1) := wf_none HB1.out (.inr (.inl ⟨hv, (fun h => by have h1 := two_iff.2 h; rw [hab, h1] at ho; cases ho), rfl, rfl⟩))
  clear hb1 hT1 hab hv ho HSC
  go_wp2
  refine bodyPost_ret (results_tmp2 rfl _ _ _) rfl ?_
  exact HRS.out
 ·have hin : (0 ≤ a ∧ a < t.states) ∧ (0 ≤ b ∧ b < t.states) := two_iff.1 (by rw [hab] at ho; simpa using ho)
  have HIN := Lib.hid hin
  obtain ⟨A, rfl⟩ : ∃ A : Nat, a = (A : Int) := ⟨a.toNat, by omega⟩
  obtain ⟨B, rfl⟩ : ∃ B : Nat, b = (B : Int) := ⟨b.toNat, by omega⟩
  have hst : ((t.states.toNat : Nat) : Int) = t.states := by omega
  have HST := Lib.hid hst
  have hAS : A < t.states.toNat := by omega
  have hBS : B < t.states.toNat := by omega
  have HAS := Lib.hid hAS
  have HBS := Lib.hid hBS
  have HV := Lib.hid hv
  have HSQ := Lib.hid (SaturateLts_any lo t lv ev w1 HSH.out (HL.out.below HB1.out) (HE.out.below HB1.out) (HG.out.below HB1.out))
  have y0 := hT1.cell 0 rfl
  have y1 := hT1.cell 1 rfl
  have y2 := hT1.cell 2 rfl
  have y3 := hT1.cell 3 rfl
  clear hb1 hT1 hab hv ho hin hst HSC x0 x1 x2 x3 hAS hBS
  go_wp2_with fail
  refine Calls.mono HSQ.out ?_
  rintro e w2 ⟨hb2, ⟨code, rfl, ⟨hnv, rfl⟩ | ⟨-, hnv, rfl⟩⟩ | ⟨lv2, ev2, rfl, -, hvs, hown⟩⟩
  ·exact absurd HV.out hnv
  ·obtain ⟨W, hW⟩ : ∃ W, W = w2.alloc (.cells #[.int .i64 0, .int .i64 0, .slice none 0 0, .slice none 0 0] 32) := ⟨_, rfl⟩
   have hal : Below w2.heap.size w2 W := by rw [hW]; exact (Below.refl _ _).alloc (Nat.le_refl _) _
   have HB2 : Hid (Below w.heap.size w w2) := HB1.out.trans (hb2.mono hs1)
   have HRS : Hid (RetWf t A B w (.returned (.tuple #[.slice none 0 0, .int .i64 5])) W) := wf_none (HB2.out.trans (hal.mono HB2.out.size)) (.inr (.inr ⟨HV.out, HIN.out, .inl ⟨hnv, rfl, rfl⟩⟩))
   have HW := Lib.hid hW
   clear hb2 hnv hal hW HSQ y0 y1 y2 y3
   go_wp2_with fail
   rw [← HW.out]
   refine bodyPost_ret (results_tmp2 rfl _ _ _) rfl ?_
   exact HRS.out
  ·obtain ⟨la, lc, rfl, -, -⟩ := owns_slice hown.1
   obtain ⟨ea, ec, rfl, -, -⟩ := owns_slice hown.2
   have HB2 : Hid (Below w.heap.size w w2) := HB1.out.trans (hb2.mono hs1)
   obtain ⟨W, hW⟩ : ∃ W, W = w2.alloc (.cells #[.int .i64 t.states, .int .i64 t.initial, .slice la (satT t).labels.length lc, .slice ea (satT t).edges.length ec] 32) := ⟨_, rfl⟩
   obtain ⟨xb, hxb⟩ : ∃ xb, xb = w2.heap.size := ⟨_, rfl⟩
   have hal : Below w2.heap.size w2 W := by rw [hW]; exact (Below.refl _ _).alloc (Nat.le_refl _) _
   have HO := Lib.hid (hown.below hal)
   have HBX : Hid (Below w.heap.size w W) := HB2.out.trans (hal.mono HB2.out.size)
   have hsX : w.heap.size ≤ W.heap.size := HBX.out.size
   have HVS := Lib.hid hvs
   have HDI : Hid (Calls Tryz.prog 26 #[.agg #[.int .i64 t.states, .int .i64 t.initial, .slice la (satT t).labels.length lc, .slice ea (satT t).edges.length ec], .int .i64 A, .int .i64 B] W (RetDf (satT t) A B W)) :=
    distinguish_any w1.heap.size t.states.toNat (satT t) _ _ A B W HVS.out HST.out HAS.out HBS.out (SliceK.of_owns (enc := encS) (e := 9) encS_len rfl (by rw [flat_encS]; exact HO.out.1)) (SliceK.of_owns (enc := encE) (e := 66) encE_len rfl HO.out.2) (Nat.le_trans hb2.size hal.size)
   obtain ⟨EN, hEN⟩ : ∃ EN, EN = (satT t).edges.length := ⟨_, rfl⟩
   obtain ⟨LN, hLN⟩ : ∃ LN, LN = (satT t).labels.length := ⟨_, rfl⟩
   rw [← hEN, ← hLN] at HDI hW
   rw [← hEN, ← hLN]
   have HW := Lib.hid hW
   clear hb2 hown hW hxb hal hEN hLN HSQ HO y0 y1 y2 y3 hvs
   go_wp2_with fail
   rw [← HW.out]
   refine Calls.mono HDI.out ?_
   rintro e w4 ⟨hb4, f, c, v, rfl, hdf, hfo⟩
   have HRS : Hid (RetWf t A B w (.returned (.tuple #[v, .int .i64 c])) w4) := ⟨HBX.out.trans (hb4.mono hsX), f, c, v, rfl, .inr (.inr ⟨HV.out, HIN.out, .inr ⟨HVS.out, hdf⟩⟩), own_lower hfo hsX⟩
   clear hb4 hdf hfo HDI
   go_wp2
   refine bodyPost_ret (results_tmp2 rfl _ _ _) rfl ?_
   exact HRS.out

end Go.Proofs.YtjoacldbgnphkaaGreatDoor

namespace Go.Proofs.YtjoacldbgnphkaaGreatDoor
open Go Go.RowKit


/-- A matrix of truths in a block of the call's own. -/
abbrev OwnM (B : Nat) (w : World) (G N NN : Nat) (f : Mat) : Prop := w.ownsRow B 4 1 (.slice (some ⟨G, 0, none⟩) NN NN) NN (rowT NN (flatM N f))
theorem OwnM.congr {B : Nat} {w : World} {G N NN : Nat} {f g : Mat} (hNN : NN = N * N) (h : OwnM B w G N NN f) (hf : ∀ x y, x < N → y < N → f x y = g x y) : OwnM B w G N NN g := by
 subst hNN
 unfold OwnM at *
 rw [← rowM_congr hf]
 exact h

set_option maxRecDepth 100000 in
set_option maxHeartbeats 4000000 in
theorem l02Close_any (G N NN : Nat) (f : Mat) (w0 w : World) (hN : N ≤ 40) (hNN : NN = N * N) (hb : Below w0.heap.size w0 w) (ho : OwnM w0.heap.size w G N NN f) :
  Calls Tryz.prog 76 #[.int .i64 N, .slice (some ⟨G, 0, none⟩) NN NN] w fun e w' => e = .returned (.tuple #[]) ∧ Below w0.heap.size w0 w' ∧ OwnM w0.heap.size w' G N NN (war (dgF f N) N) := by
 have hNN2 : NN ≤ 1600 := by rw [hNN]; exact Nat.le_trans (Nat.mul_le_mul hN hN) (by decide)
 have HNN := Lib.hid hNN
 have HB := Lib.hid hb
 have HO := Lib.hid ho
 have hg0 : w0.heap.size ≤ G := (ho.lt _ rfl).1
 obtain ⟨B, hB⟩ : ∃ B, B = w0.heap.size := ⟨_, rfl⟩
 rw [← hB] at HO hg0 ⊢
 have HBE := Lib.hid hB
 have HG0 := Lib.hid hg0
 have HSET : Hid (∀ (wr : World) (q : Nat) (v : Value), Below B w0 wr → Below B w0 (wr.setCell ⟨G, q, none⟩ v)) := fun wr q v h => by
  rw [hB] at h hg0 ⊢
  exact h.setCell hg0 _
 clear hb ho hB hNN hg0
 rw [← HBE.out] at HB
 go_enter Tryz.func76, Tryz.ntmps76
 go_wp2
 go_loopw [4] (fun v4 wr => ∃ k : Nat, k ≤ N ∧ v4 = .int .i64 k ∧ Below B w0 wr ∧ OwnM B wr G N NN (dgF f k)) (fun v4 _ => N - (intOf v4).toNat)
 case atStart => exact ⟨0, Nat.zero_le _, rfl, HB.out, by rw [dgF_zero]; exact HO.out⟩
 case round =>
  clear HB HO
  obtain ⟨k, hk, rfl, hbl, hoo⟩ := hrel
  obtain ⟨wC, rfl⟩ : ∃ wC : World, wC = wr := ⟨_, rfl⟩
  have HBC := Lib.hid hbl
  have HOC := Lib.hid hoo
  clear hbl hoo
  by_cases hlt : k < N
  ·obtain ⟨P, hP⟩ : ∃ P : Nat, P = k * N := ⟨_, rfl⟩
   have hmi : (k : Int) * (N : Int) = (P : Int) := by rw [hP]; simp
   have hPN : P + k < NN := by rw [hP, HNN.out]; exact flat_lt hlt hlt
   have hcell := ownM_cell HNN.out (q := P + k) (by rw [hP]) HOC.out hlt hlt
   have hfz := HOC.out.frozenAt (P + k)
   have HST : Hid (OwnM B (wC.setCell ⟨G, P + k, none⟩ (.bool true)) G N NN (dgF f (k + 1))) := ownM_set HNN.out (by rw [hP]) HOC.out hlt hlt (fun x y => dgF_step)
   have HBS : Hid (Below B w0 (wC.setCell ⟨G, P + k, none⟩ (.bool true))) := HSET.out _ _ _ HBC.out
   clear hP
   go_wp2
   go_roundw
   case rel => exact ⟨k + 1, by omega, by go_num, HBS.out, HST.out⟩
   case measure => simp [intOf]; omega
  ·have HKN : Hid (k = N) := Lib.hid (show k = N by omega)
   have HOS : Hid (OwnM B wC G N NN (war (dgF f N) 0)) := by
    have h := HOC.out
    rw [HKN.out] at h
    exact h
   obtain ⟨F, hF⟩ : ∃ F, F = dgF f N := ⟨_, rfl⟩
   rw [← hF] at HOS
   have HFE := Lib.hid hF
   clear HOC HKN hF
   go_wp2
   go_loopw [5] (fun v5 wr => ∃ b : Nat, b ≤ N ∧ v5 = .int .i64 b ∧ Below B w0 wr ∧ OwnM B wr G N NN (war F b)) (fun v5 _ => N - (intOf v5).toNat)
   case atStart => exact ⟨0, Nat.zero_le _, rfl, HBC.out, HOS.out⟩
   case round =>
    clear HBC HOS
    obtain ⟨b, hbN, rfl, hbl, hoo⟩ := hrel
    obtain ⟨wD, rfl⟩ : ∃ wD : World, wD = wr := ⟨_, rfl⟩
    have HBD := Lib.hid hbl
    obtain ⟨M, hM⟩ : ∃ M, M = war F b := ⟨_, rfl⟩
    rw [← hM] at hoo
    have HOD : Hid (OwnM B wD G N NN (warA M b 0)) := by unfold Hid; rw [warA_zero]; exact hoo
    have HMM := Lib.hid hM
    clear hbl hoo hM
    by_cases hlb : b < N
    ·go_wp2
     go_loopw [6] (fun v6 wr => ∃ a : Nat, a ≤ N ∧ v6 = .int .i64 a ∧ Below B w0 wr ∧ OwnM B wr G N NN (warA M b a)) (fun v6 _ => N - (intOf v6).toNat)
     case atStart => exact ⟨0, Nat.zero_le _, rfl, HBD.out, HOD.out⟩
     case round =>
      clear HBD HOD
      obtain ⟨a, haN, rfl, hbl, hoo⟩ := hrel
      obtain ⟨wE, rfl⟩ : ∃ wE : World, wE = wr := ⟨_, rfl⟩
      have HBE2 := Lib.hid hbl
      have HOE := Lib.hid hoo
      clear hbl hoo
      by_cases hla : a < N
      ·obtain ⟨P, hP⟩ : ∃ P : Nat, P = a * N := ⟨_, rfl⟩
       have hmi : (a : Int) * (N : Int) = (P : Int) := by rw [hP]; simp
       have hPN : P + b < NN := by rw [hP, HNN.out]; exact flat_lt hla hlb
       have hcell := ownM_cell HNN.out (q := P + b) (by rw [hP]) HOE.out hla hlb
       rw [warA_read] at hcell
       have HPE : Hid (P = a * N) := hP
       obtain ⟨mb, hmb⟩ : ∃ mb, mb = M a b := ⟨_, rfl⟩
       rw [← hmb] at hcell
       have HMB := Lib.hid hmb
       clear hP hmb
       cases mb
       ·have HSK : Hid (OwnM B wE G N NN (warA M b (a + 1))) := by unfold Hid; rw [warA_skip HMB.out.symm]; exact HOE.out
        go_wp2
        go_roundw
        case rel => exact ⟨a + 1, by omega, by go_num, HBE2.out, HSK.out⟩
        case measure => simp [intOf]; omega
       ·have HOS : Hid (OwnM B wE G N NN (warC M b a 0)) := by unfold Hid; rw [warC_zero]; exact HOE.out
        go_wp2
        clear hcell hmi hPN
        go_loopw [7] (fun v7 wr => ∃ c : Nat, c ≤ N ∧ v7 = .int .i64 c ∧ Below B w0 wr ∧ OwnM B wr G N NN (warC M b a c)) (fun v7 _ => N - (intOf v7).toNat)
        case atStart => exact ⟨0, Nat.zero_le _, rfl, HBE2.out, HOS.out⟩
        case round =>
         clear HBE2 HOS HOE
         obtain ⟨c, hcN, rfl, hbl, hoo⟩ := hrel
         obtain ⟨wF, rfl⟩ : ∃ wF : World, wF = wr := ⟨_, rfl⟩
         have HBF := Lib.hid hbl
         have HOF := Lib.hid hoo
         clear hbl hoo
         by_cases hlc : c < N
         ·obtain ⟨Q, hQ⟩ : ∃ Q : Nat, Q = b * N := ⟨_, rfl⟩
          have hqi : (b : Int) * (N : Int) = (Q : Int) := by rw [hQ]; simp
          have hQN : Q + c < NN := by rw [hQ, HNN.out]; exact flat_lt hlb hlc
          have hcell := ownM_cell HNN.out (q := Q + c) (by rw [hQ]) HOF.out hlb hlc
          rw [warC_read] at hcell
          have hmi : (a : Int) * (N : Int) = (P : Int) := by rw [HPE.out]; simp
          have hPN : P + c < NN := by rw [HPE.out, HNN.out]; exact flat_lt hla hlc
          have hcel2 := ownM_cell HNN.out (q := P + c) (by rw [HPE.out]) HOF.out hla hlc
          have hfz := HOF.out.frozenAt (P + c)
          obtain ⟨mc, hmc⟩ : ∃ mc, mc = M b c := ⟨_, rfl⟩
          rw [← hmc] at hcell
          have HMC := Lib.hid hmc
          clear hQ hmc
          cases mc
          ·have HSK : Hid (OwnM B wF G N NN (warC M b a (c + 1))) := HOF.out.congr HNN.out fun x y _ _ => by
            rw [warC_step]
            by_cases e : x = a ∧ y = c
            ·rw [if_pos e, e.1, e.2, ← HMC.out, Bool.or_false]
            ·rw [if_neg e]
           clear hcel2 hfz hmi hPN
           go_wp2
           go_roundw
           case rel => exact ⟨c + 1, by omega, by go_num, HBF.out, HSK.out⟩
           case measure => simp [intOf]; omega
          ·have HST : Hid (OwnM B (wF.setCell ⟨G, P + c, none⟩ (.bool true)) G N NN (warC M b a (c + 1))) := ownM_set HNN.out (by rw [HPE.out]) HOF.out hla hlc (fun x y => by rw [warC_step, ← HMC.out, Bool.or_true])
           have HBS : Hid (Below B w0 (wF.setCell ⟨G, P + c, none⟩ (.bool true))) := HSET.out _ _ _ HBF.out
           go_wp2
           go_roundw
           case rel => exact ⟨c + 1, by omega, by go_num, HBS.out, HST.out⟩
           case measure => simp [intOf]; omega
         ·have HCN : Hid (c = N) := Lib.hid (show c = N by omega)
          have HOA : Hid (OwnM B wF G N NN (warA M b (a + 1))) := by
           have h := HOF.out
           rw [HCN.out] at h
           exact h.congr HNN.out fun x y _ hy => warC_all HMB.out.symm hy
          clear HCN HOF
          go_wp2
          go_roundw
          case rel => exact ⟨a + 1, by omega, by go_num, HBF.out, HOA.out⟩
          case measure => simp [intOf]; omega
      ·have HAN : Hid (a = N) := Lib.hid (show a = N by omega)
       have HOA : Hid (OwnM B wE G N NN (war F (b + 1))) := by
        have h := HOE.out
        rw [HAN.out] at h
        refine h.congr HNN.out fun x y hx _ => ?_
        rw [warA_all hx, HMM.out]
        rfl
       clear HAN HOE
       go_wp2
       go_roundw
       case rel => exact ⟨b + 1, by omega, by go_num, HBE2.out, HOA.out⟩
       case measure => simp [intOf]; omega
    ·have HBN : Hid (b = N) := Lib.hid (show b = N by omega)
     have HOR : Hid (OwnM B wD G N NN (war (dgF f N) N)) := by
      have h := HOD.out
      rw [warA_zero, HMM.out, HBN.out, HFE.out] at h
      exact h
     clear HBN HOD
     go_wp2
     go_end0
     exact ⟨rfl, HBD.out, HOR.out⟩

end Go.Proofs.YtjoacldbgnphkaaGreatDoor

namespace Go.Proofs.YtjoacldbgnphkaaGreatDoor
open Go Go.RowKit


/-- The first m entries have been joined. -/
def mixT (f g : Int → Bool) (m : Nat) (i : Int) : Bool := f i || (decide (i < (m : Int)) && g i)
theorem mixT_zero {f g : Int → Bool} {N : Nat} : rowT N (mixT f g 0) = rowT N f := rowT_congr fun i _ => by
 unfold mixT
 have : ¬ ((i : Int) < ((0 : Nat) : Int)) := by omega
 rw [decide_eq_false this]
 simp
theorem mixT_all {f g h : Int → Bool} {N : Nat} (hh : ∀ i : Nat, i < N → h i = (f i || g i)) : rowT N (mixT f g N) = rowT N h := rowT_congr fun i hi => by
 unfold mixT
 have : ((i : Int) < (N : Int)) := by omega
 simp [this, hh i hi]
theorem mixT_set {f g : Int → Bool} {N m : Nat} (hm : m < N) : (rowT N (mixT f g m)).set m (.bool (mixT f g m m || g m)) = rowT N (mixT f g (m + 1)) := by
 refine rowT_set hm fun i hi => ?_
 unfold mixT
 by_cases e : i = m
 ·subst e
  have h1 : ((i : Int) < ((i + 1 : Nat) : Int)) := by omega
  have h2 : ¬ ((i : Int) < (i : Int)) := by omega
  rw [if_pos rfl, decide_eq_true h1, decide_eq_false h2]
  simp
 ·rw [if_neg e]
  by_cases h : i < m
  ·have h1 : ((i : Int) < ((m + 1 : Nat) : Int)) := by omega
   have h2 : ((i : Int) < (m : Int)) := by omega
   rw [decide_eq_true h1, decide_eq_true h2]
  ·have h1 : ¬ ((i : Int) < ((m + 1 : Nat) : Int)) := by omega
   have h2 : ¬ ((i : Int) < (m : Int)) := by omega
   rw [decide_eq_false h1, decide_eq_false h2]

end Go.Proofs.YtjoacldbgnphkaaGreatDoor

namespace Go.Proofs.YtjoacldbgnphkaaGreatDoor
open Go Go.RowKit


noncomputable def stillM (t : Lts) : Mat := fun x y => closB t x y

set_option maxRecDepth 100000 in
set_option maxHeartbeats 4000000 in
theorem l16Still_any (bt lo N NN : Nat) (t : Lts) (w : World) (hv : Valid t) (hN : (N : Int) = t.states) (hNN : NN = N * N) (hp : LtsPtr lo w bt t) :
  Calls Tryz.prog 52 #[.pointer (some ⟨bt, 0, none⟩)] w fun e w' => ∃ G, e = .returned (.slice (some ⟨G, 0, none⟩) NN NN) ∧ Below w.heap.size w w' ∧ OwnM w.heap.size w' G N NN (stillM t) := by
 have HV := Lib.hid hv
 have h1 := hv.st0
 have h2 := hv.st1
 have hmost := hv.most
 have HNS := Lib.hid hN
 obtain ⟨lv, ev, hpl, q0, -, -, q3, -, hes⟩ := hp
 obtain ⟨ae, ce, rfl, hen, hec, herow⟩ := hes
 rw [← hN] at q0 h1 h2
 have hN40 : N ≤ 40 := by omega
 have hNi : (N : Int) * (N : Int) = (NN : Int) := by rw [hNN]; simp
 have hNN2 : NN ≤ 1600 := by rw [hNN]; exact Nat.le_trans (Nat.mul_le_mul hN40 hN40) (by decide)
 have hwN : IntKind.i64.wrap (NN : Int) = (NN : Int) := IntWalk.i64_in _ (by omega)
 have HER := Lib.hid herow
 have HNN := Lib.hid hNN
 obtain ⟨E, hE⟩ : ∃ E, E = t.edges.length := ⟨_, rfl⟩
 rw [← hE] at hen hmost q3
 have HEE := Lib.hid hE
 have HQ3 := Lib.hid q3
 obtain ⟨ib, hib, hzb0, hzb1, hzb2⟩ := info_parts info_boolG
 obtain ⟨B, hB⟩ : ∃ B, B = w.heap.size := ⟨_, rfl⟩
 have HBE := Lib.hid hB
 clear hv hN hNN herow hE hB
 go_enter Tryz.func52, Tryz.ntmps52
 go_wp2_with (at_make; refine wpList_make_full _ rfl _ _ 89 rfl w.heap.size 4 ib _ 1 Tryz.underlying89 hib hzb0 hzb1 .i64 .i64 _ _ NN rfl rfl (by first | rfl | exact hwN) (by first | rfl | exact hwN) ?_ ?_ ?_ ?_)
 ·rw [hzb2]; omega
 ·simp [maxLen]; omega
 ·exact Nat.le_refl _
 intro w1 ho hg
 rw [toList_madeCells_one] at ho
 obtain ⟨G, hG⟩ : ∃ G, G = w.heap.size := ⟨_, rfl⟩
 have HB1 : Hid (Below w.heap.size w w1) := (Below.refl _ w).grown hg (Nat.le_refl _) (fun _ h => by cases h)
 rw [← hG] at ho ⊢
 have HO1 : Hid (OwnM w.heap.size w1 G N NN (tauM t 0)) := by
  unfold Hid OwnM
  rw [← hG]
  have e : rowT NN (flatM N (tauM t 0)) = List.replicate NN (.bool false) := by
   rw [tauM_zero]
   apply List.ext_getElem (by simp [rowT])
   intro i h1 h2
   simp [rowT, flatM]
  rw [e]
  simpa using ho
 have HGW : Hid (G = w.heap.size) := hG
 clear ho hg hib hzb0 hzb1 hzb2 hG q0 q3 hwN
 go_wp2
 go_loopw [5] (fun v5 wr => ∃ n : Nat, n ≤ E ∧ v5 = .int .i64 n ∧ Below w.heap.size w wr ∧ OwnM w.heap.size wr G N NN (tauM t n)) (fun v5 _ => E - (intOf v5).toNat)
 case atStart => exact ⟨0, Nat.zero_le _, rfl, HB1.out, HO1.out⟩
 case round =>
  clear HB1 HO1
  obtain ⟨n, hn, rfl, hbl, hoo⟩ := hrel
  obtain ⟨wC, rfl⟩ : ∃ wC : World, wC = wr := ⟨_, rfl⟩
  have HBC := Lib.hid hbl
  have HOC := Lib.hid hoo
  have q3 := keeps hbl hpl HQ3.out
  have HQC := Lib.hid q3
  clear hoo
  by_cases hlt : n < E
  ·have hnE : n < t.edges.length := by rw [← HEE.out]; exact hlt
   obtain ⟨be, oe, rfl, -, hbe, e1, e2, e3⟩ := (HER.out.below hbl).edge hnE
   have hok := HV.out.edge n hnE
   have hhit := fun (a c : Nat) => tauM_hit (a := a) (c := c) hnE
   have hmiss := tauM_miss hnE
   obtain ⟨q, hq⟩ : ∃ q, q = t.edges[n] := ⟨_, rfl⟩
   rw [← hq] at e1 e2 e3 hok hhit hmiss
   obtain ⟨es, hes⟩ : ∃ d : Nat, (d : Int) = q.src := ⟨q.src.toNat, by have := hok.s0; omega⟩
   obtain ⟨ed, hed⟩ : ∃ d : Nat, (d : Int) = q.dst := ⟨q.dst.toNat, by have := hok.d0; omega⟩
   have hsn : es < N := by have := hok.s1; have := HNS.out; omega
   have hdn : ed < N := by have := hok.d1; have := HNS.out; omega
   obtain ⟨el, hel⟩ : ∃ el, el = q.lab := ⟨_, rfl⟩
   rw [← hes] at e1
   rw [← hel] at e2
   rw [← hed] at e3
   have HHIT : Hid (el = 0 → ∀ x y, tauM t (n + 1) x y = if x = es ∧ y = ed then true else tauM t n x y) := fun h => hhit es ed (by rw [← hel]; exact h) hes.symm hed.symm
   have HMISS : Hid (¬ el = 0 → tauM t (n + 1) = tauM t n) := fun h => hmiss (by rw [← hel]; exact h)
   have HE1 := Lib.hid e1
   have HE3 := Lib.hid e3
   clear hq hok hhit hmiss hes hed hel hbl e1 e3
   by_cases hl0 : el = 0
   ·have hgd : (el == 0) = true := by rw [beq_iff_eq]; exact hl0
    obtain ⟨P, hP⟩ : ∃ P : Nat, P = es * N := ⟨_, rfl⟩
    have hmi : (es : Int) * (N : Int) = (P : Int) := by rw [hP]; simp
    have hPN : P + ed < NN := by rw [hP, HNN.out]; exact flat_lt hsn hdn
    have hwP : IntKind.i64.wrap (P : Int) = (P : Int) := IntWalk.i64_in _ (by omega)
    have hwQ : IntKind.i64.wrap ((P : Int) + (ed : Int)) = (P : Int) + (ed : Int) := IntWalk.i64_in _ (by omega)
    have hcell : wC.drew.cell? ⟨G, P + ed, none⟩ = _ := ownM_cell HNN.out (q := P + ed) (by rw [hP]) HOC.out hsn hdn
    have hfz := (owns_below HOC.out (Below.refl wC.heap.size wC).drew).frozenAt (P + ed)
    have HST : Hid (OwnM w.heap.size (wC.drew.setCell ⟨G, P + ed, none⟩ (.bool true)) G N NN (tauM t (n + 1))) := ownM_set HNN.out (by rw [hP]) (owns_below HOC.out (Below.refl wC.heap.size wC).drew) hsn hdn (HHIT.out hl0)
    have HBS : Hid (Below w.heap.size w (wC.drew.setCell ⟨G, P + ed, none⟩ (.bool true))) := HBC.out.drew.setCell (by show w.heap.size ≤ G; rw [HGW.out]; exact Nat.le_refl _) _
    obtain ⟨mb, hmb⟩ : ∃ mb, mb = tauM t n es ed := ⟨_, rfl⟩
    rw [← hmb] at hcell
    clear hP hl0 hmb
    go_wp2
    have q3d : wC.drew.cell? ⟨bt, 3, none⟩ = _ := HQC.out
    have e1d : wC.drew.cell? ⟨be, oe + n * 3, none⟩ = _ := HE1.out
    have e3d : wC.drew.cell? ⟨be, oe + n * 3 + 2, none⟩ = _ := HE3.out
    clear q3 e2
    go_region
    go_wp2
    go_roundw
    case rel => exact ⟨n + 1, by omega, by go_num, HBS.out, HST.out⟩
    case measure => simp [intOf]; omega
   ·have hgd : (el == 0) = false := by rw [beq_eq_false_iff_ne]; exact hl0
    have HST : Hid (OwnM w.heap.size wC G N NN (tauM t (n + 1))) := by unfold Hid; rw [HMISS.out hl0]; exact HOC.out
    clear hl0
    go_wp2
    go_roundw
    case rel => exact ⟨n + 1, by omega, by go_num, HBC.out, HST.out⟩
    case measure => simp [intOf]; omega
  ·have HNE : Hid (n = t.edges.length) := Lib.hid (by rw [← HEE.out]; omega)
   have HOE : Hid (OwnM w.heap.size wC G N NN (tauM t t.edges.length)) := by unfold Hid; rw [← HNE.out]; exact HOC.out
   have HCL := Lib.hid (l02Close_any G N NN (tauM t t.edges.length) w wC hN40 HNN.out HBC.out HOE.out)
   clear HNE hbl
   go_wp2_with fail
   refine Calls.mono HCL.out ?_
   rintro e wD ⟨rfl, hbD, hoD⟩
   have HBD := Lib.hid hbD
   have HOD : Hid (OwnM w.heap.size wD G N NN (stillM t)) := hoD.congr HNN.out fun x y hx hy => still_at HV.out HNS.out hx hy
   clear hbD hoD HCL q3
   go_wp2
   go_ret
   exact ⟨G, rfl, HBD.out, HOD.out⟩

end Go.Proofs.YtjoacldbgnphkaaGreatDoor
