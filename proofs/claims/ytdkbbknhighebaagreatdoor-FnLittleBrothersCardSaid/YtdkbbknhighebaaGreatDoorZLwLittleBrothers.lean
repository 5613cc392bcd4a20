/-
  For all arguments the law FnLittleBrothers answers true.
-/
import Derived.Test.YtdkbbknhighebaaGreatDoorL15
import Derived.Test.YtdkbbknhighebaaGreatDoorL16
import Derived.Test.YtdkbbknhighebaaGreatDoorL18
import Derived.Deep.Cut
namespace Go.Proofs.YtdkbbknhighebaaGreatDoor
open Go Go.RowKit


set_option maxRecDepth 100000 in
set_option maxHeartbeats 4000000 in
theorem lawLittleBrothers (a0 : Option Addr) (N c0 : Nat) (bs : List UInt8) (a1 : Option Addr) (N1 c1 : Nat) (bs1 : List UInt8) (w : World) (hN : N = bs.length) (hc : N ≤ 1048576 → BytesIn w.heap.size w (.slice a0 N c0) bs) (_hN1 : N1 = bs1.length) (_hc1 : N1 ≤ 1048576 → BytesIn w.heap.size w (.slice a1 N1 c1) bs1) (g : Glob w) :
  Calls Tryz.prog 3 #[.slice a0 N c0, .slice a1 N1 c1] w fun e w' => e = .returned (.bool true) ∧ Below w.heap.size w w' := by
 have HLG := Lib.hid (r8Long_any a0 a1 N c0 N1 c1 w)
 by_cases hlong : (decide (1048576 < N) || decide (1048576 < N1)) = true
 ·rw [hlong] at HLG
  clear hN hc hlong _hN1 _hc1 g
  go_enter Tryz.func3, Tryz.ntmps3
  go_wp2_with fail
  refine Calls.mono HLG.out ?_
  rintro e w1 ⟨rfl, rfl⟩
  go_wp2
  go_ret
  exact ⟨rfl, Below.refl _ _⟩
 have hlf : (decide (1048576 < N) || decide (1048576 < N1)) = false := by simpa using hlong
 have hNs : N ≤ 1048576 := by
  rw [Bool.or_eq_false_iff] at hlf
  have := of_decide_eq_false hlf.1
  omega
 rw [hlf] at HLG
 have HTD := Lib.hid (r8Lts_any (.slice a0 N c0) bs w (hc hNs))
 have HG := Lib.hid g
 clear hlong hlf hN hc g _hN1 _hc1
 go_enter Tryz.func3, Tryz.ntmps3
 go_wp2_with fail
 refine Calls.mono HLG.out ?_
 rintro e w1 ⟨rfl, rfl⟩
 clear HLG
 go_wp2_with fail
 refine Calls.mono HTD.out ?_
 rintro e w1 ⟨hb1, t, lv, ev, rfl, hown, hv, hsh⟩
 obtain ⟨la, lc, rfl, -, -⟩ := owns_slice hown.1
 obtain ⟨ea, ec, rfl, -, -⟩ := owns_slice hown.2
 obtain ⟨tb, htb⟩ : ∃ tb, tb = w1.heap.size := ⟨_, rfl⟩
 obtain ⟨W2, hW2⟩ : ∃ W2, W2 = w1.alloc (.cells #[.int .i64 t.states, .int .i64 t.initial, .slice la t.labels.length lc, .slice ea t.edges.length ec] 27) := ⟨_, rfl⟩
 have hb2 : Below w1.heap.size w1 W2 := by rw [hW2]; exact (Below.refl _ _).alloc (Nat.le_refl _) _
 have hT : Blk W2 tb [.int .i64 t.states, .int .i64 t.initial, .slice la t.labels.length lc, .slice ea t.edges.length ec] 27 := by rw [hW2, htb]; exact Blk.new w1 _ _
 have hs1 : w.heap.size ≤ w1.heap.size := hb1.size
 have HB2 : Hid (Below w.heap.size w W2) := hb1.trans (hb2.mono hs1)
 have hs2 : w.heap.size ≤ W2.heap.size := HB2.out.size
 have HOT := Lib.hid (hown.below hb2)
 have HT := Lib.hid hT
 have HV := Lib.hid hv
 have HSH := Lib.hid hsh
 have HG2 := Lib.hid (HG.out.below HB2.out)
 have HMS := Lib.hid (minimalSimulation_any w.heap.size t _ _ W2 hv hsh HOT.out.labs HOT.out.eds HG2.out)
 have HW2 := Lib.hid hW2
 have HTB := Lib.hid htb
 have t0 := hT.cell 0 rfl
 have t1 := hT.cell 1 rfl
 have t2 := hT.cell 2 rfl
 have t3 := hT.cell 3 rfl
 clear hb1 hb2 hT hW2 htb hown hv hsh HTD HG
 rw [HW2.out, HTB.out] at t0 t1 t2 t3
 go_wp2_with fail
 rw [← HW2.out]
 refine Calls.mono HMS.out ?_
 rintro e w3 ⟨m, lm, em, rfl, hb3, ho3, hv3, hl3, hle, hle2, hno, hal⟩
 obtain ⟨lb, ld, rfl, -, -⟩ := owns_slice ho3.1
 obtain ⟨eb, ed, rfl, -, -⟩ := owns_slice ho3.2
 obtain ⟨S, hS⟩ : ∃ S : Nat, (S : Int) = m.states := ⟨m.states.toNat, by have := hv3.st0; omega⟩
 have hS40 : S ≤ 40 := by have := hv3.st1; omega
 (try rw [← HTB.out])
 obtain ⟨mb, hmb⟩ : ∃ mb, mb = w3.heap.size := ⟨_, rfl⟩
 obtain ⟨W4, hW4⟩ : ∃ W4, W4 = w3.alloc (.cells #[.int .i64 m.states, .int .i64 m.initial, .slice lb m.labels.length ld, .slice eb m.edges.length ed] 27) := ⟨_, rfl⟩
 have hb4 : Below w3.heap.size w3 W4 := by rw [hW4]; exact (Below.refl _ _).alloc (Nat.le_refl _) _
 have hM : Blk W4 mb [.int .i64 m.states, .int .i64 m.initial, .slice lb m.labels.length ld, .slice eb m.edges.length ed] 27 := by rw [hW4, hmb]; exact Blk.new w3 _ _
 have hb24 : Below W2.heap.size W2 W4 := hb3.trans (hb4.mono hb3.size)
 have HB4 : Hid (Below w.heap.size w W4) := HB2.out.trans (hb24.mono hs2)
 have hs4 : w.heap.size ≤ W4.heap.size := HB4.out.size
 have HOM := Lib.hid ((ho3.below hb4).lower (lo' := w.heap.size) hs2)
 have HOT4 := Lib.hid (HOT.out.below hb24)
 have HG4 := Lib.hid (HG2.out.below hb24)
 have HT4 := Lib.hid (HT.out.below hb24)
 have HM := Lib.hid hM
 have HVM := Lib.hid hv3
 have HSM : Hid (Short20 m.labels) := by unfold Hid; rw [hl3]; exact HSH.out
 have HAM := Lib.hid (areMutual_any w.heap.size t m _ _ _ _ W4 HV.out hv3 HSH.out hl3 hle hle2 HOT4.out.labs HOT4.out.eds HOM.out.labs HOM.out.eds HG4.out)
 have HNO := Lib.hid hno
 have HAL := Lib.hid hal
 have HSE := Lib.hid hS
 have HW4 := Lib.hid hW4
 have HMB := Lib.hid hmb
 have m0 := hM.cell 0 rfl
 have m1 := hM.cell 1 rfl
 have m2 := hM.cell 2 rfl
 have m3 := hM.cell 3 rfl
 have n0 := HT4.out.cell 0 rfl
 have n1 := HT4.out.cell 1 rfl
 have n2 := HT4.out.cell 2 rfl
 have n3 := HT4.out.cell 3 rfl
 rw [hW4] at n0 n1 n2 n3
 rw [hW4, hmb] at m0 m1 m2 m3
 clear t0 t1 t2 t3 hb3 ho3 hv3 hl3 hle hle2 hno hal hS hmb hW4 hb4 hM hb24 HMS
 go_wp2_with fail
 rw [← HW4.out]
 refine Calls.mono HAM.out ?_
 rintro e w5 ⟨rfl, hb5⟩
 (try rw [← HMB.out])
 have HB5 : Hid (Below W4.heap.size W4 w5) := hb5
 have HLB := Lib.hid (littleBrothers2_any w.heap.size m _ _ w5 HVM.out HSM.out HNO.out (HOM.out.below hb5).labs (HOM.out.below hb5).eds (HG4.out.below hb5))
 clear m0 m1 m2 m3 n0 n1 n2 n3 HAM
 have hM5 := HM.out.below hb5
 have m0 := hM5.cell 0 rfl
 have m1 := hM5.cell 1 rfl
 have m2 := hM5.cell 2 rfl
 have m3 := hM5.cell 3 rfl
 have hs5 : W4.heap.size ≤ w5.heap.size := hb5.size
 clear hb5 hM5
 go_wp2_with fail
 refine Calls.mono HLB.out ?_
 rintro e w6 ⟨la6, lc6, rfl, hb6⟩
 have hB6 : Below W4.heap.size W4 w6 := HB5.out.trans (hb6.mono hs5)
 have HB6 := Lib.hid hB6
 have HCL := Lib.hid (simulationClasses2_any w.heap.size S m _ _ w6 HVM.out HSM.out HSE.out (HOM.out.below hB6).labs (HOM.out.below hB6).eds (HG4.out.below hB6))
 clear m0 m1 m2 m3 HLB
 have hM6 := HM.out.below hB6
 have m0 := hM6.cell 0 rfl
 have m1 := hM6.cell 1 rfl
 have m2 := hM6.cell 2 rfl
 have m3 := hM6.cell 3 rfl
 have hs6 : W4.heap.size ≤ w6.heap.size := hB6.size
 clear hb6 hB6 hM6
 go_wp2_with fail
 refine Calls.mono HCL.out ?_
 rintro e w7 ⟨M, v7, hGM, rfl, hb7, hsl7⟩
 obtain ⟨hnd, hlen⟩ := cls_alone HVM.out HSE.out hGM HAL.out
 have hB7 : Below W4.heap.size W4 w7 := HB6.out.trans (hb7.mono hs6)
 have HRB : Hid (∀ g : Later w7, Calls Tryz.prog 10 #[v7] g.w fun e w'' => e = .returned (.int .i64 (S : Int)) ∧ Below g.w.heap.size g.w w'') := fun g => by
  have h := r8Blocks_any w6.heap.size v7 _ g.w (hsl7.below g.h) hnd (by rw [hlen]; omega)
  rw [hlen] at h
  exact h
 clear m0 m1 m2 m3 HCL
 have hM7 := HM.out.below hB7
 have k0 := hM7.cell 0 rfl
 rw [← HSE.out] at k0
 have s0 := later_cell hM7.lt k0
 have HB7 : Hid (Below w.heap.size w w7) := HB4.out.trans (hB7.mono hs4)
 have hs7 : w.heap.size ≤ w7.heap.size := HB7.out.size
 clear hb7 hB7 hM7 k0 hGM hnd hlen hsl7
 go_wp2
 refine wp_region_later (by kernel_rfl) (by kernel_rfl) ?_
 repeat (go_big_quiet_step (((go_at_call 10; exact later_call (HRB.out _)))))
 refine wpQuiet_nil ?_
 intro _ hw9
 obtain ⟨nl, hw8⟩ := hw9
 subst hw8
 have HBF := Lib.hid (HB7.out.trans (nl.h.mono hs7))
 go_wp2
 go_ret
 exact ⟨by simp, HBF.out⟩

end Go.Proofs.YtdkbbknhighebaaGreatDoor
