/-
  The reference's l14Table.
  The reference's DistinguishingFormula.
  The program's DistinguishingFormula.
  The functions of the laws that mark texts, edges, a system: what they turn.
  What a size that fits says of a system's parts.
  What the joining walks of the exact laws share: copies of systems, boxes, which blocks a mark can turn.
-/
import Derived.Test.YtjoacldbgnphkaaGreatDoorD16
import Derived.Test.YtjoacldbgnphkaaGreatDoorD18
import Derived.StillTailTactics
import Derived.Test.YtjoacldbgnphkaaGreatDoorD13
import Derived.Test.YtjoacldbgnphkaaGreatDoorD3
import Derived.Test.YtjoacldbgnphkaaGreatDoorD17
import Derived.Test.YtjoacldbgnphkaaGreatDoorD7
import Derived.Test.YtjoacldbgnphkaaGreatDoorD8
namespace Go.Proofs.YtjoacldbgnphkaaGreatDoor
open Go Go.RowKit


set_option maxRecDepth 100000 in
set_option maxHeartbeats 4000000 in
theorem table14_any (bt lo lo2 S : Nat) (t : Lts) (vv : Value) (w : World) (hv : Valid t) (hS : (S : Int) = t.states) (hp : LtsPtr lo w bt t) (hvs : IntssAt lo2 w vv (levs t)) :
  Calls Tryz.prog 22 #[.pointer (some ⟨bt, 0, none⟩), vv] w fun e w' => ∃ ta N, N = S * S ∧ e = .returned (.slice (some ⟨ta, 0, none⟩) N N) ∧ Below w.heap.size w w' ∧ TabR w' (.slice (some ⟨ta, 0, none⟩) N N) S t (lastR t) := by
 have HV := Lib.hid hv
 have HP := Lib.hid hp
 have HSS := Lib.hid hS
 have HAT := Lib.hid hvs
 have hlast := (last_ok hv).1
 have hs0 := hv.st0
 have hs1 := hv.st1
 obtain ⟨la, lc, hve⟩ : ∃ la lc, vv = .slice la (lastR t + 1) lc := by
  obtain ⟨vs, hl, ⟨a, c, rfl, -⟩, -⟩ := hvs
  rw [levs_len] at hl
  exact ⟨a, c, by rw [hl]⟩
 subst hve
 have hS40 : S ≤ 40 := by omega
 have hS1 : 1 ≤ S := by omega
 obtain ⟨N, hN⟩ : ∃ N : Nat, N = S * S := ⟨_, rfl⟩
 have hNi : (S : Int) * (S : Int) = (N : Int) := by rw [hN]; simp
 have hN2 : N ≤ 1600 := by rw [hN]; exact Nat.le_trans (Nat.mul_le_mul hS40 hS40) (by decide)
 obtain ⟨L, hL⟩ : ∃ L, L = lastR t := ⟨_, rfl⟩
 rw [← hL] at hlast HAT ⊢
 have hL40 : L < 40 := by omega
 have HLL := Lib.hid hL
 have HNN := Lib.hid hN
 obtain ⟨lv, ev, hpl, q0, -⟩ := hp
 rw [← hS] at q0
 have HQ0 := Lib.hid q0
 have HAP : Hid (∀ (a b : Nat) (w' : World), a < S → b < S → Below w.heap.size w w' → Calls Tryz.prog 21 #[.slice la (L + 1) lc, .int .i64 a, .int .i64 b] w' fun e w'' => e = .returned (.int .i64 (sepR t a b)) ∧ Below w'.heap.size w' w'') := fun a b w' ha hb hw => by
  have h := apart_any lo2 S t (.slice la (L + 1) lc) a b w' HV.out HSS.out (by have := HSS.out; omega) (by have := HSS.out; omega) (HAT.out.below hw)
  exact h
 have HTE : Hid (∀ (tv : Value) (a b k : Nat) (w' : World), a < S → b < S → Below w.heap.size w w' → sepR t a b = k + 1 → TabR w' tv S t k → Calls Tryz.prog 40 #[.pointer (some ⟨bt, 0, none⟩), .slice la (L + 1) lc, tv, .int .i64 a, .int .i64 b] w' fun e w'' => ∃ v, e = .returned v ∧ Below w'.heap.size w' w'' ∧ FormO w'.heap.size w'' v (tellT t a b)) := fun tv a b k w' ha hb hw hk ht =>
  tell14_any bt lo lo2 S k t (.slice la (L + 1) lc) tv a b w' HV.out HSS.out (by have := HSS.out; omega) (by have := HSS.out; omega) (HP.out.below hw) (HAT.out.below hw) hk ht
 obtain ⟨i2, hi2, hz20, hz21, hz22⟩ := info_parts info_nodesR
 clear hv hS hvs hs0 hs1 hL hN hlast
 go_enter Tryz.func22, Tryz.ntmps22
 go_wp2
 go_still_tail 9, (by kernel_rfl)
 have hwN : IntKind.i64.wrap (N : Int) = (N : Int) := IntWalk.i64_in _ (by omega)
 refine wpList_make_full _ rfl _ _ 47 rfl w.heap.size 27 i2 _ 1 Tryz.underlying47 hi2 hz20 hz21 .i64 .i64 _ _ N rfl rfl hwN hwN ?_ ?_ ?_ ?_
 ·rw [hz22]; omega
 ·simp [maxLen]; omega
 ·exact Nat.le_refl _
 intro w1 ho hg
 have hb1 : Below w.heap.size w w1 := ((Below.refl _ w).drew).grown hg (Nat.le_refl _) (fun _ h => by cases h)
 have hs1 : w.heap.size < w1.heap.size := (ho.lt _ rfl).2
 have hmk : (madeCells (Value.slice none 0 0).cells (N * 1)).toList = List.replicate N (.slice none 0 0) := by rw [Nat.mul_one]; exact toList_madeCells_one _ _
 have HT1 : Hid (TabO w.heap.size w1 w.heap.size S N t 1 0 0 (List.replicate N (.slice none 0 0))) := TabO.start HNN.out (by rw [← hmk]; exact ho)
 have hta1 : w.heap.size < w1.heap.size := hs1
 clear hmk ho hg hs1 q0
 have HB1 := Lib.hid hb1
 clear hb1
 go_wp2
 go_loopw [6] (fun v6 wr => ∃ (k : Nat) (hs : List Value), 1 ≤ k ∧ k ≤ L + 1 ∧ v6 = .int .i64 k ∧ Below w.heap.size w wr ∧ w.heap.size < wr.heap.size ∧ TabO w.heap.size wr w.heap.size S N t k 0 0 hs) (fun v6 _ => L + 1 - (intOf v6).toNat)
 case atStart => exact ⟨1, _, Nat.le_refl _, by omega, rfl, HB1.out, hta1, HT1.out⟩
 case round =>
  clear HB1 HT1 hta1
  obtain ⟨k, hs, hk1, hk, rfl, hbl, htl, hto⟩ := hrel
  obtain ⟨wC, rfl⟩ : ∃ wC : World, wC = wr := ⟨_, rfl⟩
  have HBC := Lib.hid hbl
  have HTC := Lib.hid hto
  clear hbl hto
  by_cases hlk : k < L + 1
  ·have hgk : decide ((k : Int) < (L : Int) + 1) = true := decide_eq_true (by omega)
   go_wp2
   go_loopw [7] (fun v7 wr => ∃ (a : Nat) (hs : List Value), a ≤ S ∧ v7 = .int .i64 a ∧ Below w.heap.size w wr ∧ w.heap.size < wr.heap.size ∧ TabO w.heap.size wr w.heap.size S N t k a 0 hs) (fun v7 _ => S - (intOf v7).toNat)
   case atStart => exact ⟨0, _, Nat.zero_le _, rfl, HBC.out, htl, HTC.out⟩
   case round =>
    clear HBC HTC htl
    obtain ⟨a, hs, haS, rfl, hbl, htl, hto⟩ := hrel
    obtain ⟨wD, rfl⟩ : ∃ wD : World, wD = wr := ⟨_, rfl⟩
    have HBD := Lib.hid hbl
    have HTD := Lib.hid hto
    have q0 := keeps hbl hpl HQ0.out
    clear hbl hto
    by_cases hla : a < S
    ·go_wp2
     clear q0
     go_loopw [8] (fun v8 wr => ∃ (b : Nat) (hs : List Value), b ≤ S ∧ v8 = .int .i64 b ∧ Below w.heap.size w wr ∧ w.heap.size < wr.heap.size ∧ TabO w.heap.size wr w.heap.size S N t k a b hs) (fun v8 _ => S - (intOf v8).toNat)
     case atStart => exact ⟨0, _, Nat.zero_le _, rfl, HBD.out, htl, HTD.out⟩
     case round =>
      clear HBD HTD htl
      obtain ⟨b, hs, hbS, rfl, hbl, htl, hto⟩ := hrel
      obtain ⟨wE, rfl⟩ : ∃ wE : World, wE = wr := ⟨_, rfl⟩
      have HBE := Lib.hid hbl
      have HTE2 := Lib.hid hto
      have q0 := keeps hbl hpl HQ0.out
      have hszE := hbl.size
      clear hbl hto
      by_cases hlb : b < S
      ·have HAC := Lib.hid (HAP.out a b wE hla hlb HBE.out)
       go_wp2_with fail
       refine Calls.mono HAC.out ?_
       rintro e wF ⟨rfl, hbF⟩
       have HBF : Hid (Below w.heap.size w wF) := HBE.out.trans (hbF.mono hszE)
       have HTF := Lib.hid (HTE2.out.below hbF)
       have htF : w.heap.size < wF.heap.size := Nat.lt_of_lt_of_le htl hbF.size
       have q0 := keeps HBF.out hpl HQ0.out
       obtain ⟨sp, hsp⟩ : ∃ sp, sp = sepR t a b := ⟨_, rfl⟩
       rw [← hsp]
       have HSP := Lib.hid hsp
       clear hbF hsp HAC HTE2 HBE htl
       by_cases hsk : sp = k
       ·have hgd : ((sp : Int) == (k : Int)) = true := by rw [beq_iff_eq]; omega
        obtain ⟨P, hP⟩ : ∃ P : Nat, P = a * S := ⟨_, rfl⟩
        have hmi : (a : Int) * (S : Int) = (P : Int) := by rw [hP]; simp
        have hP16 : P + b < N := by rw [hP, HNN.out]; exact place_ltM hla hlb
        have HIX : Hid (P + b = a * S + b) := by unfold Hid; rw [hP]
        obtain ⟨k', hk'⟩ : ∃ k', k = k' + 1 := ⟨k - 1, by omega⟩
        have HCT := Lib.hid (HTE.out (.slice (some ⟨w.heap.size, 0, none⟩) N N) a b k' wF.drew hla hlb HBF.out.drew (by rw [← HSP.out, hsk, hk']) (by have h := HTF.out; rw [hk'] at h; exact (h.below (Below.refl _ _).drew).tab htF))
        have hln := HTF.out.len
        have hixh : P + b < hs.length := by omega
        have HFR := Lib.hid (fun (w' : World) (hb : Below wF.heap.size wF w') => ((HTF.out.below hb).own.frozenAt (P + b)))
        have HCE := Lib.hid (fun (w' : World) (hb : Below wF.heap.size wF w') => ((HTF.out.below hb).cell hixh))
        have hneT : bt ≠ w.heap.size := by omega
        have hwP : IntKind.i64.wrap (P : Int) = (P : Int) := IntWalk.i64_in _ (by omega)
        have hwQ : IntKind.i64.wrap ((P : Int) + (b : Int)) = (P : Int) + (b : Int) := IntWalk.i64_in _ (by omega)
        have hj0 : (0 : Int) ≤ (P : Int) + (b : Int) := by omega
        have hj1 : (P : Int) + (b : Int) < (N : Int) := by omega
        have hj2 : ((P : Int) + (b : Int)).toNat = P + b := by omega
        clear hP hsk hk' hln
        have hDr : Below wF.heap.size wF wF.drew := (Below.refl _ _).drew
        have HQF := Lib.hid (fun (w' : World) (hb : Below wF.heap.size wF w') => keeps (HBF.out.trans (hb.mono HBF.out.size)) hpl HQ0.out)
        have q0d := HQF.out _ hDr
        have HSF : Hid (w.heap.size ≤ wF.heap.size) := HBF.out.size
        go_wp2_with fail
        go_region_held3 (fun w' => w'.cell? ⟨bt, 0, none⟩ = some (.int .i64 S))
         (first
          | with_reducible exact q0
          | with_reducible exact q0d
          | with_reducible exact q0e
          | with_reducible exact q0f
          | go_keep)
         (first
          | (go_at_call 40; refine Calls.mono HCT.out ?_; rintro e wG ⟨v, rfl, hbG, hfo⟩; obtain ⟨fa, fc, rfl⟩ := hfo.slice; have hbG2 : Below wF.heap.size wF wG := hDr.trans (hbG.mono hDr.size); have q0e := HQF.out wG hbG2; have ce := HCE.out wG hbG2; have fe := HFR.out wG hbG2; have q0f : (wG.setCell ⟨w.heap.size, P + b, none⟩ (.slice fa (tellT t a b).length fc)).cell? ⟨bt, 0, none⟩ = some (.int .i64 S) := (World.cell?_setCell_far _ _ _ _ (fun e => hneT e.symm)).trans q0e)
          | fail)
        have HPUT : Hid (TabO w.heap.size (wG.setCell ⟨w.heap.size, P + b, none⟩ (.slice fa (tellT t a b).length fc)) w.heap.size S N t k a (b + 1) (hs.set (P + b) (.slice fa (tellT t a b).length fc))) := HTF.out.put hbG2 hla hlb (hfo.at.mono (show w.heap.size + 1 ≤ wF.drew.heap.size from htF)) HIX.out
        have HBG : Hid (Below w.heap.size w (wG.setCell ⟨w.heap.size, P + b, none⟩ (.slice fa (tellT t a b).length fc))) := (HBF.out.trans (hbG2.mono HSF.out)).setCell (by exact Nat.le_refl _) _
        have htG : w.heap.size < (wG.setCell ⟨w.heap.size, P + b, none⟩ (.slice fa (tellT t a b).length fc)).heap.size := by rw [World.size_setCell]; exact Nat.lt_of_lt_of_le htF hbG2.size
        clear hfo hbG hbG2 ce fe q0e q0f hwP hwQ hDr q0d hj0 hj1 hj2
        go_wp2
        go_roundw
        case rel => exact ⟨b + 1, _, by omega, by go_num, HBG.out, htG, HPUT.out⟩
        case measure => simp [intOf]; omega
       ·have hgd : ((sp : Int) == (k : Int)) = false := by rw [beq_eq_false_iff_ne]; omega
        have HTN : Hid (TabO w.heap.size wF w.heap.size S N t k a (b + 1) hs) := HTF.out.skip (by rw [← HSP.out]; exact hsk)
        clear hsk
        go_wp2
        go_roundw
        case rel => exact ⟨b + 1, hs, by omega, by go_num, HBF.out, htF, HTN.out⟩
        case measure => simp [intOf]; omega
      ·have hbe : b = S := by omega
       have HTN : Hid (TabO w.heap.size wE w.heap.size S N t k (a + 1) 0 hs) := by
        have h := HTE2.out
        rw [hbe] at h
        exact h.nextA
       clear hbe
       go_wp2
       go_roundw
       case rel => exact ⟨a + 1, hs, by omega, by go_num, HBE.out, htl, HTN.out⟩
       case measure => simp [intOf]; omega
    ·have hae : a = S := by omega
     have HTN : Hid (TabO w.heap.size wD w.heap.size S N t (k + 1) 0 0 hs) := by
      have h := HTD.out
      rw [hae] at h
      exact h.nextK
     clear hae
     go_wp2
     go_roundw
     case rel => exact ⟨k + 1, hs, by omega, by omega, by go_num, HBD.out, htl, HTN.out⟩
     case measure => simp [intOf]; omega
  ·have hke : k = L + 1 := by omega
   have HRES : Hid (TabR wC (.slice (some ⟨w.heap.size, 0, none⟩) N N) S t L) := by
    have h := HTC.out
    rw [hke] at h
    exact h.tab htl
   clear hke
   go_wp2
   go_ret
   exact ⟨_, N, HNN.out, rfl, HBC.out, HRES.out⟩

end Go.Proofs.YtjoacldbgnphkaaGreatDoor

namespace Go.Proofs.YtjoacldbgnphkaaGreatDoor
open Go Go.RowKit


theorem two_iff {t : Lts} {a b : Int} : (inB a 0 (t.states - 1) && inB b 0 (t.states - 1)) = true ↔ (0 ≤ a ∧ a < t.states) ∧ (0 ≤ b ∧ b < t.states) := by
 rw [Bool.and_eq_true, inB_iff, inB_iff]
 omega

set_option maxRecDepth 100000 in
set_option maxHeartbeats 4000000 in
theorem specDistinguishingFormula_any (lo : Nat) (t : Lts) (lv ev : Value) (a b : Int) (w : World) (hsh : Short t.labels) (hl : SliceK 1 encS lo w lv t.labels) (he : SliceK 3 encE lo w ev t.edges) :
  Calls Tryz.prog 6 #[.agg #[.int .i64 t.states, .int .i64 t.initial, lv, ev], .int .i64 a, .int .i64 b] w (RetDf t a b w) := by
 obtain ⟨tb, htb⟩ : ∃ tb, tb = w.heap.size := ⟨_, rfl⟩
 obtain ⟨wA, hwA⟩ : ∃ wA, wA = w.alloc (.cells #[.int .i64 t.states, .int .i64 t.initial, lv, ev] 32) := ⟨_, rfl⟩
 have hbA : Below w.heap.size w wA := by rw [hwA]; exact (Below.refl _ _).alloc (Nat.le_refl _) _
 have hT : Blk wA tb [.int .i64 t.states, .int .i64 t.initial, lv, ev] 32 := by rw [hwA, htb]; exact Blk.new w _ _
 have HSH := Lib.hid hsh
 have HP : Hid (LtsPtr lo wA tb t) := ⟨lv, ev, hT.lt, hT.cell 0 rfl, hT.cell 1 rfl, hT.cell 2 rfl, hT.cell 3 rfl, hl.below hbA, he.below hbA⟩
 have HBA := Lib.hid hbA
 have HT := Lib.hid hT
 have HWA := Lib.hid hwA
 have HTB := Lib.hid htb
 have hsW : w.heap.size ≤ wA.heap.size := hbA.size
 clear hsh hl he hwA hbA hT htb
 by_cases hv : Valid t
 ·have HV := Lib.hid hv
  have HVA : Hid (Calls Tryz.prog 18 #[.pointer (some ⟨tb, 0, none⟩)] wA fun e w' => e = .returned (.bool true) ∧ Below wA.heap.size wA w') := Decides.yes (l11Is_any _ lo t _ HSH.out HP.out) hv
  obtain ⟨S, hS⟩ : ∃ S : Nat, (S : Int) = t.states := ⟨t.states.toNat, by have := hv.st0; omega⟩
  have HSS := Lib.hid hS
  have hS40 : S ≤ 40 := by have := hv.st1; omega
  clear hS
  clear hv
  go_enter Tryz.func6, Tryz.ntmps6
  go_wp2_with fail
  rw [← HWA.out, ← HTB.out]
  refine Calls.mono HVA.out ?_
  rintro e w1 ⟨rfl, hb1⟩
  have HB1 : Hid (Below w.heap.size w w1) := HBA.out.trans (hb1.mono hsW)
  have HP1 := Lib.hid (HP.out.below hb1)
  have HT1 := Lib.hid (HT.out.below hb1)
  have HTW := Lib.hid (two_any tb lo t a b w1 HV.out HP1.out)
  have hs1 : w.heap.size ≤ w1.heap.size := HB1.out.size
  clear hb1 HVA
  obtain ⟨tw, htw⟩ : ∃ tw, tw = (inB a 0 (t.states - 1) && inB b 0 (t.states - 1)) := ⟨_, rfl⟩
  rw [← htw] at HTW
  have HTI := Lib.hid htw
  clear htw
  go_wp2_with fail
  refine Calls.mono HTW.out ?_
  rintro e w1' ⟨rfl, rfl⟩
  cases tw
  ·go_wp2
   refine bodyPost_ret (results_tmp2 rfl _ _ _) rfl ?_
   exact df_none HB1.out (.inr (.inl ⟨HV.out, (fun h => by have h1 := two_iff.2 h; rw [← HTI.out] at h1; cases h1), rfl, rfl⟩))
  ·have hab := two_iff.1 HTI.out.symm
   have HAB := Lib.hid hab
   have HLV := Lib.hid (levels_any tb lo S t w1 HV.out HSS.out HP1.out)
   obtain ⟨A, hA⟩ : ∃ A : Nat, (A : Int) = a := ⟨a.toNat, by omega⟩
   obtain ⟨B, hB⟩ : ∃ B : Nat, (B : Int) = b := ⟨b.toNat, by omega⟩
   subst hA hB
   have hAS : A < S := by have := HSS.out; omega
   have hBS : B < S := by have := HSS.out; omega
   clear hab HTW
   go_wp2_with fail
   refine Calls.mono HLV.out ?_
   rintro e w2 ⟨v, vs, rfl, hb2, ho2⟩
   have hlv := ho2.at
   obtain ⟨la, lc, rfl, -, -⟩ := owns_slice ho2.2.1
   obtain ⟨VL, hVL⟩ : ∃ VL, VL = vs.length := ⟨_, rfl⟩
   rw [← hVL] at hlv ⊢
   clear hVL
   have HB2 : Hid (Below w.heap.size w w2) := HB1.out.trans (hb2.mono hs1)
   have HP2 := Lib.hid (HP1.out.below hb2)
   have HT2 := Lib.hid (HT1.out.below hb2)
   have HLE := Lib.hid hlv
   have HAP := Lib.hid (apart_any _ S t _ A B w2 HV.out HSS.out HAB.out.1 HAB.out.2 hlv)
   have hs2 : w.heap.size ≤ w2.heap.size := HB2.out.size
   obtain ⟨sp, hsp⟩ : ∃ sp, sp = sepR t A B := ⟨_, rfl⟩
   rw [← hsp] at HAP
   have HSP := Lib.hid hsp
   clear hb2 ho2 hlv hsp HLV HB1 HP1 HT1
   go_wp2_with fail
   refine Calls.mono HAP.out ?_
   rintro e w3 ⟨rfl, hb3⟩
   have HB3 : Hid (Below w.heap.size w w3) := HB2.out.trans (hb3.mono hs2)
   have HP3 := Lib.hid (HP2.out.below hb3)
   have HT3 := Lib.hid (HT2.out.below hb3)
   have HL3 := Lib.hid (HLE.out.below hb3)
   have hs3 : w.heap.size ≤ w3.heap.size := HB3.out.size
   clear hb3 HAP HB2 HP2 HT2 HLE
   by_cases hsp0 : sp = 0
   ·have hgd : ((sp : Int) == 0) = true := by rw [beq_iff_eq]; omega
    have HRS : Hid (DfIs t A B [] 3) := .inr (.inr ⟨HV.out, HAB.out, .inl ⟨by rw [← HSP.out]; exact hsp0, rfl, rfl⟩⟩)
    clear hsp0
    go_wp2
    refine bodyPost_ret (results_tmp2 rfl _ _ _) rfl ?_
    exact df_none HB3.out HRS.out
   ·have hgd : ((sp : Int) == 0) = false := by rw [beq_eq_false_iff_ne]; omega
    have HSP0 : Hid (0 < sepR t A B) := by have := HSP.out; unfold Hid; omega
    have HSL : Hid (sepR t A B ≤ lastR t) := by
     unfold Hid
     obtain ⟨d, hd⟩ : ∃ d, sepR t A B = d + 1 := ⟨sepR t A B - 1, by have := HSP0.out; omega⟩
     rw [hd]
     exact (sep_pos hd).1
    have hDr : Below w3.heap.size w3 w3.drew := (Below.refl _ _).drew
    have HTC := Lib.hid (table14_any tb lo _ S t (.slice la VL lc) w3.drew HV.out HSS.out (HP3.out.below hDr) (HL3.out.below hDr))
    have t0 := HT3.out.cell 0 rfl
    rw [← HSS.out] at t0
    have htl3 := HT3.out.lt
    have t0d : w3.drew.cell? ⟨tb, 0, none⟩ = some (.int .i64 S) := keeps hDr htl3 t0
    obtain ⟨P, hP⟩ : ∃ P : Nat, P = A * S := ⟨_, rfl⟩
    have hmi : (A : Int) * (S : Int) = (P : Int) := by rw [hP]; simp
    have hP16 : P ≤ 1600 := by rw [hP]; exact Nat.le_trans (Nat.mul_le_mul (show A ≤ 40 by omega) hS40) (by decide)
    have HPX : Hid (P = A * S) := hP
    clear hsp0 hP
    have hPB : P + B ≤ 1700 := by omega
    have hwP : IntKind.i64.wrap (P : Int) = (P : Int) := IntWalk.i64_in _ (by omega)
    have hwQ : IntKind.i64.wrap ((P : Int) + (B : Int)) = (P : Int) + (B : Int) := IntWalk.i64_in _ (by omega)
    have HMI := Lib.hid hmi
    obtain ⟨i4, hi4, hz40, hz41, hz42⟩ := info_parts info_nodeR
    go_wp2_with fail
    go_region_law
     (go_simp; go_at_call 22; refine Calls.mono HTC.out ?_; rintro e w4 ⟨ta, N, -, rfl, hb4, htab⟩; have hb34 : Below w3.heap.size w3 w4 := hDr.trans (hb4.mono hDr.size); have k1 := keeps hb34 htl3 t0; obtain ⟨xn, yn, P', v, hxn, hyn, -, -, hmi', -, hix, htl, hcell, hsl⟩ := htab.at hS40 (x := A) (y := B) (by omega) (by omega) HSP0.out HSL.out; have hxA : xn = A := (by omega); have hyB : yn = B := (by omega); subst hxA hyB; have hPP : P' = P := (by have := HMI.out; omega); subst hPP; obtain ⟨fa, fc, rfl, hfn, hfm, -⟩ := id hsl; have hj0 : (0 : Int) ≤ (P' : Int) + (yn : Int) := (by omega); have hj1 : (P' : Int) + (yn : Int) < (N : Int) := (by omega); have hj2 : ((P' : Int) + (yn : Int)).toNat = P' + yn := (by omega))
    all_goals (
     obtain ⟨F, hF⟩ : ∃ F, F = tellT t xn yn := ⟨_, rfl⟩
     rw [← hF] at hsl hfn ⊢
     have HF := Lib.hid hF
     have HSLF := Lib.hid hsl
     have HFN : Hid (F = [] → DfIs t xn yn [] 5) := fun h => .inr (.inr ⟨HV.out, HAB.out, .inr (.inl ⟨HSP0.out, by rw [← HF.out]; exact h, rfl, rfl⟩)⟩)
     have HFY : Hid (F ≠ [] → DfIs t xn yn F 0) := fun h => .inr (.inr ⟨HV.out, HAB.out, .inr (.inr ⟨HSP0.out, by rw [← HF.out]; exact h, HF.out, rfl⟩)⟩)
     have hF2 : F.length ≤ 200 := by rw [hF]; exact tellT_short t _ _
     obtain ⟨FL, hFL⟩ : ∃ FL, FL = F.length := ⟨_, rfl⟩
     rw [← hFL] at hfn hF2 ⊢
     have HFL := Lib.hid hFL
     have HB4 : Hid (Below w.heap.size w w4) := HB3.out.trans (hb34.mono hs3)
     have hs4 : w.heap.size ≤ w4.heap.size := HB4.out.size
     clear hF hsl hFL hb34 hb4 htab hcell hix htl k1 hj0 hj1 hj2 hwP hwQ hmi hmi' t0 t0d hxn hyn HTC hDr
     by_cases h0 : FL = 0
     ·have hz : ((FL : Int) == 0) = true := by rw [beq_iff_eq]; omega
      have HRS := Lib.hid (HFN.out (List.length_eq_zero_iff.1 (by rw [← HFL.out]; exact h0)))
      clear h0
      go_wp2
      refine bodyPost_ret (results_tmp2 rfl _ _ _) rfl ?_
      exact df_none HB4.out HRS.out
     ·have hz : ((FL : Int) == 0) = false := by rw [beq_eq_false_iff_ne]; omega
      have hne : F ≠ [] := fun e => h0 (by rw [HFL.out, e]; rfl)
      have HRS := Lib.hid (HFY.out hne)
      obtain ⟨bq, oq, cq, hqe, -, hqb, hqc⟩ := form_cells HSLF.out hne
      rw [← HFL.out] at hqe
      simp only [Value.slice.injEq, true_and] at hqe
      obtain ⟨rfl, rfl⟩ := hqe
      have HFL4 : Hid ((F.flatMap encN).length = FL * 4) := by unfold Hid; rw [flatN_len, ← HFL.out]
      obtain ⟨WE, hWE⟩ : ∃ WE, WE = w4.alloc (.cells #[] 55) := ⟨_, rfl⟩
      have hal : Below w4.heap.size w4 WE := by rw [hWE]; exact (Below.refl _ _).alloc (Nat.le_refl _) _
      have HOE : Hid (WE.ownsRow w.heap.size 55 4 (.slice (some ⟨w4.heap.size, 0, none⟩) 0 0) 0 []) := by
       have h := World.ownsRow_lit (base := w.heap.size) (size := 4) w4 #[] (e := 55) 0 hs4 (by simp [maxLen]) rfl
       rw [← hWE] at h
       exact h
      have HQC := Lib.hid (news_below hqb hqc hal)
      have HBE : Hid (Below w.heap.size w WE) := HB4.out.trans (hal.mono hs4)
      have hsE := HBE.out.size
      have HWE := Lib.hid hWE
      have hFL1 : 0 < FL := by omega
      clear hWE hal hqc hne h0
      go_wp2_with (at_builtin; rw [← HWE.out]; refine wpList_append_lies _ rfl _ _ 27 rfl w.heap.size 55 i4 _ 4 40 Tryz.underlying27 hi4 hz40 hz41 hz42 rfl (by decide) _ _ _ rfl HOE.out ⟨bq, oq, none⟩ FL fc (F.flatMap encN) rfl ?d1 HQC.out (flatN_one _) ?d3 ?d4 ?d5 ?d6 _ rfl ?_)
      case d1 => exact HFL4.out
      case d3 => exact hFL1
      case d4 => simp [maxLen]; omega
      case d5 => omega
      case d6 => exact hsE
      intro g9 c9 w9 ho9 hg9 hat9 hlt9
      have HB9 : Hid (Below w.heap.size w w9) := HBE.out.grown hg9 hsE (fun b e => (HOE.out.lt b e).1)
      have HO9 : Hid (FormO w.heap.size w9 (.slice (some ⟨g9, 0, none⟩) (0 + FL) c9) F) := by
       unfold Hid FormO
       rw [← HFL.out]
       simpa using ho9
      clear ho9 hg9 hat9 hlt9
      go_wp2
      refine bodyPost_ret (results_tmp2 rfl _ _ _) rfl ?_
      exact ⟨HB9.out, F, 0, _, rfl, HRS.out, by simpa using HO9.out⟩)
 ·have HVA : Hid (Calls Tryz.prog 18 #[.pointer (some ⟨tb, 0, none⟩)] wA fun e w' => e = .returned (.bool false) ∧ Below wA.heap.size wA w') := Decides.no (l11Is_any _ lo t _ HSH.out HP.out) hv
  have HV := Lib.hid hv
  clear hv
  go_enter Tryz.func6, Tryz.ntmps6
  go_wp2_with fail
  rw [← HWA.out, ← HTB.out]
  refine Calls.mono HVA.out ?_
  rintro e w1 ⟨rfl, hb1⟩
  have HB1 : Hid (Below w.heap.size w w1) := HBA.out.trans (hb1.mono hsW)
  clear hb1 HVA
  go_wp2
  refine bodyPost_ret (results_tmp2 rfl _ _ _) rfl ?_
  exact df_none HB1.out (.inl ⟨HV.out, rfl, rfl⟩)

end Go.Proofs.YtjoacldbgnphkaaGreatDoor

namespace Go.Proofs.YtjoacldbgnphkaaGreatDoor
open Go Go.RowKit


set_option maxRecDepth 100000 in
set_option maxHeartbeats 2000000 in
theorem implDistinguishingFormula_lo (lo : Nat) (t : Lts) (lv ev : Value) (a b : Int) (w : World) (hsh : Short20 t.labels) (hl : SliceK 1 encS lo w lv t.labels) (he : SliceK 3 encE lo w ev t.edges) (g : Glob w) (hlo : lo ≤ w.heap.size) :
  Calls Tryz.prog 8 #[.agg #[.int .i64 t.states, .int .i64 t.initial, lv, ev], .int .i64 a, .int .i64 b] w (RetDf t a b w) := by
 obtain ⟨tb, htb⟩ : ∃ tb, tb = w.heap.size := ⟨_, rfl⟩
 obtain ⟨wA, hwA⟩ : ∃ wA, wA = w.alloc (.cells #[.int .i64 t.states, .int .i64 t.initial, lv, ev] 32) := ⟨_, rfl⟩
 have hbA : Below w.heap.size w wA := by rw [hwA]; exact (Below.refl _ _).alloc (Nat.le_refl _) _
 have hT : Blk wA tb [.int .i64 t.states, .int .i64 t.initial, lv, ev] 32 := by rw [hwA, htb]; exact Blk.new w _ _
 have hsA := hbA.size
 obtain ⟨wB, hwB⟩ : ∃ wB, wB = wA.alloc (.cells #[.int .i64 a, .int .i64 b] 2) := ⟨_, rfl⟩
 have hbB : Below wA.heap.size wA wB := by rw [hwB]; exact (Below.refl _ _).alloc (Nat.le_refl _) _
 have hbw : Below w.heap.size w wB := hbA.trans (hbB.mono hsA)
 have hlit : wB.ownsRow wA.heap.size 2 1 (.slice (some ⟨wA.heap.size, 0, none⟩) 2 2) 2 [.int .i64 a, .int .i64 b] := by rw [hwB]; exact World.ownsRow_lit (size := 1) wA #[.int .i64 a, .int .i64 b] 2 (Nat.le_refl _) (by decide) rfl
 have hx : SliceK 1 encI wA.heap.size wB (.slice (some ⟨wA.heap.size, 0, none⟩) 2 2) [a, b] := SliceK.of_owns (enc := encI) (e := 2) encI_len rfl (by rw [flat_encI]; exact hlit)
 have hzA : wA.heap.size = tb + 1 := by rw [hwA, htb]; simp
 rw [hzA] at hx
 have HSC := Lib.hid (statesCode_any lo (tb + 1) t lv ev _ [a, b] wB hsh (hl.below hbw) (he.below hbw) hx (g.below hbw))
 have HBW := Lib.hid hbw
 have hsw := hbw.size
 have HT := Lib.hid (hT.below hbB)
 have x0 := hT.cell 0 rfl
 have x1 := hT.cell 1 rfl
 have x2 := hT.cell 2 rfl
 have x3 := hT.cell 3 rfl
 have HL := Lib.hid hl
 have HE := Lib.hid he
 have HWA := Lib.hid hwA
 have HWB := Lib.hid hwB
 have HTB := Lib.hid htb
 clear hsh hl he g hwA hwB htb hbA hbB hbw hlit hx hT hzA
 go_enter Tryz.func8, Tryz.ntmps8
 go_wp2_with fail
 (try rw [← HWA.out])
 (try rw [← HTB.out])
 (try rw [← HWB.out])
 refine Calls.mono HSC.out ?_
 rintro e w1 ⟨hb1, c, rfl, hc⟩
 have HB1 : Hid (Below w.heap.size w w1) := HBW.out.trans (hb1.mono hsw)
 have hs1 : w.heap.size ≤ w1.heap.size := HB1.out.size
 have hT1 := HT.out.below hb1
 have hab : outB t [a, b] = !(inB a 0 (t.states - 1) && inB b 0 (t.states - 1)) := by
  simp only [outB, List.any_cons, List.any_nil, Bool.or_false, Bool.not_and]
 rcases hc with ⟨hv, rfl⟩ | ⟨hv, ho, rfl⟩ | ⟨hv, ho, rfl⟩
 ·have HRS : Hid (RetDf t a b w (.returned (.tuple #[.slice none 0 0, .int .i64 1])) w1) := df_none HB1.out (.inl ⟨hv, rfl, rfl⟩)
  clear hb1 hT1 hab hv HSC
  go_wp2
  refine bodyPost_ret (results_tmp2 rfl _ _ _) rfl ?_
  exact HRS.out
 ·have HRS : Hid (RetDf t a b w (.returned (.tuple #[.slice none 0 0, .int .i64 2])) w1) := df_none HB1.out (.inr (.inl ⟨hv, (fun h => by have h1 := two_iff.2 h; rw [hab, h1] at ho; cases ho), rfl, rfl⟩))
  clear hb1 hT1 hab hv ho HSC
  go_wp2
  refine bodyPost_ret (results_tmp2 rfl _ _ _) rfl ?_
  exact HRS.out
 ·have hin : (0 ≤ a ∧ a < t.states) ∧ (0 ≤ b ∧ b < t.states) := two_iff.1 (by rw [hab] at ho; simpa using ho)
  obtain ⟨A, rfl⟩ : ∃ A : Nat, a = (A : Int) := ⟨a.toNat, by omega⟩
  obtain ⟨B, rfl⟩ : ∃ B : Nat, b = (B : Int) := ⟨b.toNat, by omega⟩
  have hst : ((t.states.toNat : Nat) : Int) = t.states := by omega
  have HDI := Lib.hid (distinguish_any lo t.states.toNat t lv ev A B w1 hv hst (by omega) (by omega) (HL.out.below HB1.out) (HE.out.below HB1.out) (by omega))
  have y0 := hT1.cell 0 rfl
  have y1 := hT1.cell 1 rfl
  have y2 := hT1.cell 2 rfl
  have y3 := hT1.cell 3 rfl
  clear hb1 hT1 hab hv ho hin hst HSC x0 x1 x2 x3
  go_wp2_with fail
  refine Calls.mono HDI.out ?_
  rintro e w2 ⟨hb2, f, c, v, rfl, hdf, hfo⟩
  have HRS : Hid (RetDf t A B w (.returned (.tuple #[v, .int .i64 c])) w2) := ⟨HB1.out.trans (hb2.mono hs1), f, c, v, rfl, hdf, own_lower hfo hs1⟩
  clear hb2 hdf hfo HDI
  go_wp2
  refine bodyPost_ret (results_tmp2 rfl _ _ _) rfl ?_
  exact HRS.out
theorem implDistinguishingFormula_any (lo : Nat) (t : Lts) (lv ev : Value) (a b : Int) (w : World) (hsh : Short20 t.labels) (hl : SliceK 1 encS lo w lv t.labels) (he : SliceK 3 encE lo w ev t.edges) (g : Glob w) :
  Calls Tryz.prog 8 #[.agg #[.int .i64 t.states, .int .i64 t.initial, lv, ev], .int .i64 a, .int .i64 b] w (RetDf t a b w) :=
 implDistinguishingFormula_lo 0 t lv ev a b w hsh (hl.mono (Nat.zero_le _)) (he.mono (Nat.zero_le _)) g (Nat.zero_le _)

end Go.Proofs.YtjoacldbgnphkaaGreatDoor

namespace Go.Proofs.YtjoacldbgnphkaaGreatDoor
open Go Go.RowKit

set_option maxRecDepth 100000 in
set_option maxHeartbeats 400000 in
theorem markStringS_any (lo hi b n cap : Nat) (cs : List Value) (k : Int) (w : World) (h1 : 0 ≤ k) (h2 : k + n ≤ 1000000000) (hb1 : lo ≤ b) (hb2 : b < hi) (hv : w.ownsRow lo 9 1 (.slice (some ⟨b, 0, none⟩) n cap) n cs) :
  Calls Tryz.prog 30 #[.slice (some ⟨b, 0, none⟩) n cap, .int .i64 k] w (MarkedIn lo hi w (k + n)) := by
 have HV := Lib.hid hv
 clear hv
 go_enter Tryz.func30, Tryz.ntmps30
 go_wp2
 go_loopw [1, 5] (fun q i wr => ∃ (j : Nat) (cs : List Value), j ≤ n ∧ q = .int .i64 (k + j) ∧ i = .int .i64 j ∧ Turns lo hi w wr ∧ wr.ownsRow lo 9 1 (.slice (some ⟨b, 0, none⟩) n cap) n cs) (fun _ i _ => n - (intOf i).toNat)
 case atStart => exact ⟨0, cs, Nat.zero_le _, by simp, rfl, turns_refl _ _ _, HV.out⟩
 case round =>
  obtain ⟨j, cs, hj, rfl, rfl, hg, ho⟩ := hrel
  have HG := Lib.hid hg
  have HO := Lib.hid ho
  clear hg ho HV
  by_cases hlt : j < n
  ·go_wp2_with fail
   refine (markText_any _ _ (by omega) (by omega)).mono ?_
   rintro e w1 ⟨s, rfl, hb⟩
   have ho1 := owns_below HO.out hb
   obtain ⟨xc1, c1⟩ := own_cell ho1 (j) (by omega)
   have f1 := ho1.frozenAt j
   have HO2 := Lib.hid (ho1.stored j (.string s)).1
   have HB := Lib.hid hb
   clear ho1 hb
   go_wp2
   go_roundw
   case rel => exact ⟨j + 1, _, by omega, by go_num, by go_num, turns_trans (turns_trans HG.out (turns_below HB.out)) (turns_set _ _ _ hb1 hb2), HO2.out⟩
   case measure => simp [intOf]; omega
  ·go_wp2
   go_ret
   obtain rfl : j = n := by omega
   exact ⟨rfl, HG.out⟩

set_option maxRecDepth 100000 in
set_option maxHeartbeats 1000000 in
theorem markEdgeS_any (lo hi b n cap : Nat) (cs : List Value) (k : Int) (w : World) (h1 : 0 ≤ k) (h2 : k + 3 * n ≤ 1000000000) (hb1 : lo ≤ b) (hb2 : b < hi) (hv : w.ownsRow lo 66 3 (.slice (some ⟨b, 0, none⟩) n cap) n cs) :
  Calls Tryz.prog 31 #[.slice (some ⟨b, 0, none⟩) n cap, .int .i64 k] w (MarkedIn lo hi w (k + 3 * n)) := by
 have HV := Lib.hid hv
 clear hv
 go_enter Tryz.func31, Tryz.ntmps31
 go_wp2
 go_loopw [1, 5] (fun q i wr => ∃ (j : Nat) (cs : List Value), j ≤ n ∧ q = .int .i64 (k + 3 * j) ∧ i = .int .i64 j ∧ Turns lo hi w wr ∧ wr.ownsRow lo 66 3 (.slice (some ⟨b, 0, none⟩) n cap) n cs) (fun _ i _ => n - (intOf i).toNat)
 case atStart => exact ⟨0, cs, Nat.zero_le _, by simp, rfl, turns_refl _ _ _, HV.out⟩
 case round =>
  obtain ⟨j, cs, hj, rfl, rfl, hg, ho⟩ := hrel
  have HG := Lib.hid hg
  clear hg HV
  by_cases hlt : j < n
  ·obtain ⟨xc0, c0⟩ := own_cell ho (j * 3) (by omega)
   have s0 := (ho.stored (j * 3) (.int .i64 (k + 3 * j))).1
   obtain ⟨xc1, c1⟩ := own_cell s0 (j * 3 + 1) (by omega)
   have s1 := (s0.stored (j * 3 + 1) (.int .i64 (k + 3 * j + 1))).1
   obtain ⟨xc2, c2⟩ := own_cell s1 (j * 3 + 2) (by omega)
   have HO := Lib.hid (s1.stored (j * 3 + 2) (.int .i64 (k + 3 * j + 1 + 1))).1
   obtain ⟨xg1, g1⟩ := own_cell ho (j * 3 + 1) (by omega)
   obtain ⟨xg2, g2⟩ := own_cell ho (j * 3 + 2) (by omega)
   have f0 := ho.frozenAt (j * 3)
   have f1 := ho.frozenAt (j * 3 + 1)
   have f2 := ho.frozenAt (j * 3 + 2)
   clear ho s0 s1
   go_wp2
   go_roundw
   case rel => exact ⟨j + 1, _, by omega, by go_num, by go_num, turns_trans (turns_trans (turns_trans HG.out (turns_set _ _ _ hb1 hb2)) (turns_set _ _ _ hb1 hb2)) (turns_set _ _ _ hb1 hb2), HO.out⟩
   case measure => simp [intOf]; omega
  ·go_wp2
   go_ret
   obtain rfl : j = n := by omega
   exact ⟨rfl, HG.out⟩

set_option maxHeartbeats 1000000 in
theorem markLts_any (lo hi b1 b2 n1 n2 : Nat) (x y : Int) (cs1 cs2 : List Value) (k : Int) (w : World) (h1 : 0 ≤ k) (h2 : k + n1 + 3 * n2 ≤ 1000000000) (hb1 : lo ≤ b1) (hb2 : b1 < hi) (hb3 : lo ≤ b2) (hb4 : b2 < hi) (hhi : hi ≤ w.heap.size) (hne : b1 ≠ b2)
  (hv1 : w.ownsRow lo 9 1 (.slice (some ⟨b1, 0, none⟩) n1 n1) n1 cs1) (hv2 : w.ownsRow lo 66 3 (.slice (some ⟨b2, 0, none⟩) n2 n2) n2 cs2) :
  Calls Tryz.prog 11 #[.agg #[.int .i64 x, .int .i64 y, .slice (some ⟨b1, 0, none⟩) n1 n1, .slice (some ⟨b2, 0, none⟩) n2 n2], .int .i64 k] w (MarkedIn lo hi w (k + n1 + 3 * n2)) := by
 have V1 := Lib.hid hv1
 have V2 := Lib.hid hv2
 have HN := Lib.hid hne
 clear hv1 hv2 hne
 go_enter Tryz.func11, Tryz.ntmps11
 go_wp2_with fail
 refine (markStringS_any b1 (b1 + 1) b1 n1 n1 cs1 _ _ h1 (by omega) (Nat.le_refl _) (Nat.lt_succ_self _) ?_).mono ?_
 ·have := owns_below V1.out ((Below.refl _ w).alloc (Nat.le_refl _) (.cells #[.int .i64 x, .int .i64 y, .slice (some ⟨b1, 0, none⟩) n1 n1, .slice (some ⟨b2, 0, none⟩) n2 n2] 32))
  exact own_base this
 rintro e w1 ⟨rfl, ht1⟩
 have A := Lib.hid ((Blk.new w [.int .i64 x, .int .i64 y, .slice (some ⟨b1, 0, none⟩) n1 n1, .slice (some ⟨b2, 0, none⟩) n2 n2] 32).turns ht1 (by omega))
 have c3 := A.out.cell 3 rfl
 have T1 : Hid (Turns lo hi w w1) := turns_trans (turns_below ((Below.refl _ w).alloc (Nat.le_refl _) _)) (turns_wide ht1 (by omega) (by omega))
 have W2 := Lib.hid (owns_turns (owns_below V2.out ((Below.refl _ w).alloc (Nat.le_refl _) _)) ht1 (fun b e => by simp [Value.ownBlock] at e; have := HN.out; omega))
 clear ht1
 go_wp2_with fail
 refine (markEdgeS_any lo hi b2 n2 n2 cs2 _ _ (by omega) (by omega) hb3 hb4 W2.out).mono ?_
 rintro e w2 ⟨rfl, ht2⟩
 have T2 := Lib.hid ht2
 clear ht2
 go_wp2_with fail
 go_ret
 exact ⟨rfl, turns_trans T1.out T2.out⟩

end Go.Proofs.YtjoacldbgnphkaaGreatDoor

namespace Go.Proofs.YtjoacldbgnphkaaGreatDoor
open Go Go.RowKit

theorem szS_fit (ss : List ByteArray) (left : Int) (h0 : 0 ≤ left) (h : 0 ≤ szS ss left) : ∀ s ∈ ss, (s.size : Int) ≤ left := by
 induction ss generalizing left with
 | nil => intro s hs; cases hs
 | cons a r ih =>
  unfold szS at h
  split at h
  ·omega
  ·next hl =>
   intro s hs
   rcases List.mem_cons.1 hs with rfl | hs
   ·omega
   ·have := ih (left - a.size) (by omega) h s hs
    omega
theorem szL_fit {t : Lts} {left : Int} (_h0 : 0 ≤ left) (h : 0 ≤ szL t left) : (t.labels.length : Int) ≤ left ∧ (t.edges.length : Int) ≤ left ∧ (∀ s ∈ t.labels, (s.size : Int) ≤ left) ∧ szL t left ≤ left := by
 unfold szL at h ⊢
 split at h
 ·omega
 ·next h1 =>
  rw [if_neg h1]
  split at h
  ·omega
  ·next h2 =>
   rw [if_neg h2]
   have h3 : ¬ left - t.labels.length < 0 := by
    intro e
    rw [szSS_neg e] at h1
    omega
   rw [szSS_pos h3] at h1 h2 h ⊢
   have h4 := szS_lt t.labels (left - t.labels.length) (by omega)
   have h5 : ¬ szS t.labels (left - t.labels.length) - t.edges.length < 0 := by
    intro e
    rw [szN_neg e] at h2
    omega
   rw [szN_pos h5] at h ⊢
   refine ⟨by omega, by omega, fun s hs => ?_, by omega⟩
   have := szS_fit t.labels (left - t.labels.length) (by omega) (by omega) s hs
   omega

end Go.Proofs.YtjoacldbgnphkaaGreatDoor

namespace Go.Proofs.YtjoacldbgnphkaaGreatDoor
open Go Go.RowKit


theorem blk4 {w : World} {b : Nat} {c0 c1 c2 c3 : Value} {T : TypeId} (h : Blk w b [c0, c1, c2, c3] T) :
  w.cell? ⟨b, 0, none⟩ = some c0 ∧ w.cell? ⟨b, 1, none⟩ = some c1 ∧ w.cell? ⟨b, 2, none⟩ = some c2 ∧ w.cell? ⟨b, 3, none⟩ = some c3 :=
 ⟨h.cell 0 rfl, h.cell 1 rfl, h.cell 2 rfl, h.cell 3 rfl⟩
theorem boxNew (w : World) (a : Array Value) (T : TypeId) : Below w.heap.size w (w.alloc (.cells a T)) := (Below.refl _ _).alloc (Nat.le_refl _) _

/-- A copy of a system, with both slices in blocks of its own. -/
structure Copy (B : Nat) (t : Lts) (b1 b2 : Nat) (w : World) : Prop where
 h1 : B ≤ b1
 h2 : b1 < b2
 h3 : b2 < w.heap.size
 o1 : w.ownsRow B 9 1 (.slice (some ⟨b1, 0, none⟩) t.labels.length t.labels.length) t.labels.length (t.labels.map .string)
 o2 : w.ownsRow b2 66 3 (.slice (some ⟨b2, 0, none⟩) t.edges.length t.edges.length) t.edges.length (t.edges.flatMap encE)
theorem Copy.below {B : Nat} {t : Lts} {b1 b2 : Nat} {w w' : World} (h : Copy B t b1 b2 w) (hb : Below w.heap.size w w') : Copy B t b1 b2 w' :=
 ⟨h.h1, h.h2, Nat.lt_of_lt_of_le h.h3 hb.size, owns_below h.o1 hb, owns_below h.o2 hb⟩
theorem Copy.labels {B : Nat} {t : Lts} {b1 b2 : Nat} {w : World} (h : Copy B t b1 b2 w) : SliceK 1 encS 0 w (.slice (some ⟨b1, 0, none⟩) t.labels.length t.labels.length) t.labels :=
 SliceK.of_owns (e := 9) encS_len rfl (by rw [flat_encS]; exact own_lower h.o1 (Nat.zero_le _))
theorem Copy.edges {B : Nat} {t : Lts} {b1 b2 : Nat} {w : World} (h : Copy B t b1 b2 w) : SliceK 3 encE 0 w (.slice (some ⟨b2, 0, none⟩) t.edges.length t.edges.length) t.edges :=
 SliceK.of_owns (e := 66) encE_len rfl (own_lower h.o2 (Nat.zero_le _))
theorem Copy.at {B : Nat} {t : Lts} {b1 b2 : Nat} {w : World} (h : Copy B t b1 b2 w) : LtsAt 0 w (.agg #[.int .i64 t.states, .int .i64 t.initial, .slice (some ⟨b1, 0, none⟩) t.labels.length t.labels.length, .slice (some ⟨b2, 0, none⟩) t.edges.length t.edges.length]) t :=
 ⟨_, _, rfl, h.labels, h.edges⟩
theorem Copy.turns {B : Nat} {t : Lts} {b1 b2 lo hi : Nat} {w w' : World} (h : Copy B t b1 b2 w) (ht : Turns lo hi w w') (hB : hi ≤ B) : Copy B t b1 b2 w' :=
 ⟨h.h1, h.h2, Nat.lt_of_lt_of_le h.h3 ht.size, owns_turns h.o1 ht (fun b e => by have := (h.o1.lt b e).1; omega), owns_turns h.o2 ht (fun b e => by have := (h.o2.lt b e).1; have := h.h1; have := h.h2; omega)⟩
def CopyMade (t : Lts) (w : World) (e : Ending) (w' : World) : Prop := ∃ b1 b2, e = .returned (.agg #[.int .i64 t.states, .int .i64 t.initial, .slice (some ⟨b1, 0, none⟩) t.labels.length t.labels.length, .slice (some ⟨b2, 0, none⟩) t.edges.length t.edges.length]) ∧ Below w.heap.size w w' ∧ Copy w.heap.size t b1 b2 w'
theorem copy_any (lo : Nat) (t : Lts) (lv ev : Value) (w : World) (hl : t.labels.length ≤ 1048576) (he : t.edges.length ≤ 1048576) (h1 : SliceK 1 encS lo w lv t.labels) (h2 : SliceK 3 encE lo w ev t.edges) :
  Calls Tryz.prog 7 #[.agg #[.int .i64 t.states, .int .i64 t.initial, lv, ev]] w (CopyMade t w) :=
 (toLts_any (.agg #[.int .i64 t.states, .int .i64 t.initial, lv, ev]) lo t w hl he ⟨lv, ev, rfl, h1, h2⟩).mono fun _ _ ⟨b1, b2, he, hb, h1, h2, h3, h4, h5⟩ => ⟨b1, b2, he, hb, h1, h2, h3, h4, h5⟩

end Go.Proofs.YtjoacldbgnphkaaGreatDoor
