/-
  The reference's Conforms.
  The implementation's name of a label.
  The implementation's areActions, namesIncrease, isInput, upTo, quiescent.
  The implementation's quiescent.
  A slice less its first element, where its capacity is not known.
  The implementation's lacking.
  The implementation's outputs and unexpected.
-/
import Derived.Test.YtaabkeejbhdenaaGreatDoorC18
import Derived.Test.YtaabkeejbhdenaaGreatDoorC23
import Derived.Test.YtaabkeejbhdenaaGreatDoorC16
import Derived.Test.YtaabkeejbhdenaaGreatDoorC14
import Derived.Test.YtaabkeejbhdenaaGreatDoorC15
import Derived.Test.YtaabkeejbhdenaaGreatDoorC12
import Derived.Test.YtaabkeejbhdenaaGreatDoorC3
import Derived.Test.YtaabkeejbhdenaaGreatDoorC13
import Derived.Test.YtaabkeejbhdenaaGreatDoorC20
import Derived.Test.YtaabkeejbhdenaaGreatDoorC6
namespace Go.Proofs.YtaabkeejbhdenaaGreatDoor
open Go Go.RowKit

/-- What l28Auto leaves, in one form. -/
def AutoC (lo : Nat) (w : World) (t : Lts) (ins : List ByteArray) (ok : Bool) (n0 : Int) (c2 c3 : Value) : Prop :=
 (ok = false ∧ NoAuto t ins) ∨ (ok = true ∧ Valid (susT t ins) ∧ ∃ st, DOk (susT t ins) st ∧ n0 = (dSys (susT t ins) st).states ∧ OwnLts lo w c2 c3 (dSys (susT t ins) st))
theorem AutoC.below {lo : Nat} {w w' : World} {t : Lts} {ins : List ByteArray} {ok : Bool} {n0 : Int} {c2 c3 : Value} (h : AutoC lo w t ins ok n0 c2 c3) (hb : Below w.heap.size w w') : AutoC lo w' t ins ok n0 c2 c3 := by
 rcases h with h | ⟨h, hv, st, h1, h2, h3⟩
 ·exact .inl h
 ·exact .inr ⟨h, hv, st, h1, h2, h3.below hb⟩
theorem AutoC.lower {lo lo' : Nat} {w : World} {t : Lts} {ins : List ByteArray} {ok : Bool} {n0 : Int} {c2 c3 : Value} (h : AutoC lo w t ins ok n0 c2 c3) (hl : lo' ≤ lo) : AutoC lo' w t ins ok n0 c2 c3 := by
 rcases h with h | ⟨h, hv, st, h1, h2, h3⟩
 ·exact .inl h
 ·exact .inr ⟨h, hv, st, h1, h2, h3.lower hl⟩
theorem autoC_of {t : Lts} {ins : List ByteArray} {w w' : World} {e : Ending} (h : RetAu t ins w e w') : Below w.heap.size w w' ∧ ∃ (n0 : Int) (s2 : Option Addr) (m2 k2 : Nat) (s3 : Option Addr) (m3 k3 : Nat) (vr : Value) (ok : Bool),
  e = .returned (.tuple #[.agg #[.int .i64 n0, .int .i64 0, .slice s2 m2 k2, .slice s3 m3 k3], vr, .bool ok]) ∧ AutoC w.heap.size w' t ins ok n0 (.slice s2 m2 k2) (.slice s3 m3 k3) := by
 obtain ⟨hb, ⟨hno, rfl⟩ | ⟨hv, st, lvS, vr, evS, hok, rfl, hmem, hol⟩⟩ := h
 ·exact ⟨hb, _, _, _, _, _, _, _, _, _, rfl, .inl ⟨rfl, hno⟩⟩
 ·have hme := hmem.2
  obtain ⟨la, lc, rfl, -, -⟩ := owns_slice hol
  obtain ⟨ea, ec, rfl, -, -⟩ := owns_slice hme
  exact ⟨hb, _, _, _, _, _, _, _, _, _, rfl, .inr ⟨rfl, hv, st, hok, rfl, hol, hme⟩⟩

set_option maxRecDepth 100000 in
set_option maxHeartbeats 8000000 in
theorem specConforms_any (lo : Nat) (a : Lts) (la ea : Value) (b : Lts) (lb eb iv : Value) (ins : List ByteArray) (w : World) (hsa : Short a.labels) (hsb : Short b.labels) (hal : SliceK 1 encS lo w la a.labels) (hae : SliceK 3 encE lo w ea a.edges)
  (hbl : SliceK 1 encS lo w lb b.labels) (hbe : SliceK 3 encE lo w eb b.edges) (hi : SliceK 1 encS lo w iv ins) :
  Calls Tryz.prog 13 #[.agg #[.int .i64 a.states, .int .i64 a.initial, la, ea], .agg #[.int .i64 b.states, .int .i64 b.initial, lb, eb], iv] w (RetCon a b ins w) := by
 obtain ⟨W1, hW1⟩ : ∃ W1, W1 = w.alloc (.cells #[.int .i64 a.states, .int .i64 a.initial, la, ea] 29) := ⟨_, rfl⟩
 obtain ⟨W, hW⟩ : ∃ W, W = W1.alloc (.cells #[.int .i64 b.states, .int .i64 b.initial, lb, eb] 29) := ⟨_, rfl⟩
 have hB1 : Below w.heap.size w W1 := by rw [hW1]; exact (Below.refl _ _).alloc (Nat.le_refl _) _
 have hB2 : Below W1.heap.size W1 W := by rw [hW]; exact (Below.refl _ _).alloc (Nat.le_refl _) _
 have hB0 : Below w.heap.size w W := hB1.trans (hB2.mono hB1.size)
 have e1 : Blk W1 w.heap.size [.int .i64 a.states, .int .i64 a.initial, la, ea] 29 := by rw [hW1]; exact Blk.new w _ _
 have e2 : Blk W W1.heap.size [.int .i64 b.states, .int .i64 b.initial, lb, eb] 29 := by rw [hW]; exact Blk.new W1 _ _
 have HPA := Lib.hid (LtsIn.ptr (⟨hal.below hB0, hae.below hB0⟩ : LtsIn lo W la ea a) (e1.below hB2))
 have HPB := Lib.hid (LtsIn.ptr (⟨hbl.below hB0, hbe.below hB0⟩ : LtsIn lo W lb eb b) e2)
 have HII := Lib.hid (hi.below hB0)
 have HB0 := Lib.hid hB0
 have HS1 : Hid (W1.heap.size = w.heap.size + 1) := by unfold Hid; rw [hW1]; simp
 have HWW : Hid (W = (w.alloc (.cells #[.int .i64 a.states, .int .i64 a.initial, la, ea] 29)).alloc (.cells #[.int .i64 b.states, .int .i64 b.initial, lb, eb] 29)) := by unfold Hid; rw [hW, hW1]
 have HSA := Lib.hid hsa
 have HSB := Lib.hid hsb
 rw [HS1.out] at HPB
 clear hsa hsb hal hae hbl hbe hi hW1 hW hB1 hB2 hB0 e1 e2
 by_cases hva : IfOk a ins
 ·have HVA := Lib.hid hva
  by_cases hvb : IfOk b ins
  ·have HVB := Lib.hid hvb
   clear hva hvb
   go_enter Tryz.func13, Tryz.ntmps13
   go_wp2_with fail
   rw [← HWW.out]
   refine (Decides.yes (l28Is_any _ lo a iv ins _ HSA.out HPA.out HII.out) HVA.out).mono ?_
   rintro e w1 ⟨rfl, hb1⟩
   have HB1 := Lib.hid hb1
   clear hb1
   go_wp2_with fail
   refine (Decides.yes (l28Is_any _ lo b iv ins _ HSB.out (HPB.out.below HB1.out) (HII.out.below HB1.out)) HVB.out).mono ?_
   rintro e w2 ⟨rfl, hb2⟩
   have HB2 := Lib.hid (HB1.out.trans (hb2.mono HB1.out.size))
   have HAU := Lib.hid (l28Auto_any _ lo a iv ins w2 HVA.out HSA.out (HPA.out.below HB2.out) (HII.out.below HB2.out))
   clear hb2
   go_wp2_with fail
   refine Calls.mono HAU.out ?_
   rintro e w3 hret
   obtain ⟨hb3, n0, s2, m2, k2, s3, m3, k3, vr, ok1, rfl, hac⟩ := autoC_of hret
   obtain ⟨p2, hp2⟩ : ∃ p2, p2 = w3.heap.size := ⟨_, rfl⟩
   obtain ⟨W2, hW2⟩ : ∃ W2, W2 = w3.alloc (.cells #[.int .i64 n0, .int .i64 0, .slice s2 m2 k2, .slice s3 m3 k3] 29) := ⟨_, rfl⟩
   have hb4 : Below w3.heap.size w3 W2 := by rw [hW2]; exact (Below.refl _ _).alloc (Nat.le_refl _) _
   have hX2 : Blk W2 p2 [.int .i64 n0, .int .i64 0, .slice s2 m2 k2, .slice s3 m3 k3] 29 := by rw [hW2, hp2]; exact Blk.new w3 _ _
   have hd2 : Below W.heap.size W W2 := HB2.out.trans ((hb3.trans (hb4.mono hb3.size)).mono HB2.out.size)
   have HD2 := Lib.hid hd2
   have HX2 := Lib.hid hX2
   have HAC := Lib.hid ((hac.below hb4).lower (Nat.zero_le _))
   have HAU2 := Lib.hid (l28Auto_any _ lo b iv ins W2 HVB.out HSB.out (HPB.out.below hd2) (HII.out.below hd2))
   have HW2 := Lib.hid hW2
   have HP2 := Lib.hid hp2
   clear hret hb3 hac hb4 hX2 hd2 hW2 hp2 HAU
   go_wp2_with fail
   rw [← HW2.out]
   try rw [← HP2.out]
   refine Calls.mono HAU2.out ?_
   rintro e w4 hret
   obtain ⟨hb4, q0, t2, i2, j2, t3, i3, j3, ur, ok2, rfl, hbc⟩ := autoC_of hret
   obtain ⟨p4, hp4⟩ : ∃ p4, p4 = w4.heap.size := ⟨_, rfl⟩
   obtain ⟨W4, hW4⟩ : ∃ W4, W4 = w4.alloc (.cells #[.int .i64 q0, .int .i64 0, .slice t2 i2 j2, .slice t3 i3 j3] 29) := ⟨_, rfl⟩
   have hb5 : Below w4.heap.size w4 W4 := by rw [hW4]; exact (Below.refl _ _).alloc (Nat.le_refl _) _
   have hX4 : Blk W4 p4 [.int .i64 q0, .int .i64 0, .slice t2 i2 j2, .slice t3 i3 j3] 29 := by rw [hW4, hp4]; exact Blk.new w4 _ _
   have hb24 : Below W2.heap.size W2 W4 := hb4.trans (hb5.mono hb4.size)
   have hd4 : Below W.heap.size W W4 := HD2.out.trans (hb24.mono HD2.out.size)
   have HD4 := Lib.hid hd4
   have HX4 := Lib.hid hX4
   have HX24 := Lib.hid (HX2.out.below hb24)
   have HAC4 := Lib.hid (HAC.out.below hb24)
   have HBC4 := Lib.hid ((hbc.below hb5).lower (Nat.zero_le _))
   have HBW := Lib.hid (HB0.out.trans (hd4.mono HB0.out.size))
   have HW4 := Lib.hid hW4
   have HP4 := Lib.hid hp4
   clear hret hb4 hbc hb5 hX4 hb24 hd4 hW4 hp4 HAU2
   obtain ⟨rfl, hca⟩ | ⟨rfl, hVA, sa, hoka, rfl, hoa⟩ := HAC4.out
   ·have HF := Lib.hid hca
    clear hca
    go_wp2
    rw [← HW4.out]
    ((try simp only [Exit.inBlock, Exit.then]); refine bodyPost_ret (results_tmp4 rfl _ _ _) rfl ?_)
    exact con_none HBW.out (.inr (.inl ⟨⟨HVA.out, HVB.out⟩, .inl HF.out, rfl, rfl, rfl, rfl⟩))
   ·obtain ⟨rfl, hcb⟩ | ⟨rfl, hVB, sb, hokb, rfl, hob⟩ := HBC4.out
    ·have HF := Lib.hid hcb
     clear hcb hVA hoka hoa
     go_wp2
     rw [← HW4.out]
     ((try simp only [Exit.inBlock, Exit.then]); refine bodyPost_ret (results_tmp4 rfl _ _ _) rfl ?_)
     exact con_none HBW.out (.inr (.inl ⟨⟨HVA.out, HVB.out⟩, .inr HF.out, rfl, rfl, rfl, rfl⟩))
    ·have HVSA := Lib.hid hVA
     have HVSB := Lib.hid hVB
     have HOKA := Lib.hid hoka
     have HOKB := Lib.hid hokb
     have hpx : LtsPtr 0 W4 p2 (dSys (susT a ins) sa) := by
      obtain ⟨lv', ev', e9, h1, h2⟩ := hoa.at
      have e8 : lv' = .slice s2 m2 k2 ∧ ev' = .slice s3 m3 k3 := by simpa using e9.symm
      obtain ⟨rfl, rfl⟩ := e8
      exact LtsIn.ptr (⟨h1, h2⟩ : LtsIn 0 W4 _ _ (dSys (susT a ins) sa)) HX24.out
     have hpy : LtsPtr 0 W4 p4 (dSys (susT b ins) sb) := by
      obtain ⟨lv', ev', e9, h1, h2⟩ := hob.at
      have e8 : lv' = .slice t2 i2 j2 ∧ ev' = .slice t3 i3 j3 := by simpa using e9.symm
      obtain ⟨rfl, rfl⟩ := e8
      exact LtsIn.ptr (⟨h1, h2⟩ : LtsIn 0 W4 _ _ (dSys (susT b ins) sb)) HX4.out
     have HDF := Lib.hid (l28Differ_any p2 p4 0 (susT a ins) (susT b ins) sa sb iv ins W4 hVA hVB hoka hokb (susL_shortS HSA.out) (susL_shortS HSB.out) hpx hpy ((HII.out.below HD4.out).mono (Nat.zero_le _)))
     obtain ⟨f0, hf0⟩ : ∃ f0, f0 = (dSys (susT a ins) sa).states := ⟨_, rfl⟩
     obtain ⟨f1, hf1⟩ : ∃ f1, f1 = (dSys (susT b ins) sb).states := ⟨_, rfl⟩
     have hW4 := HW4.out
     rw [← hf1] at hW4
     have HW4' := Lib.hid hW4
     rw [← hf1]
     try rw [← hf0]
     clear hVA hVB hoka hokb hoa hob hpx hpy hf0 hf1 hW4 HAC4 HBC4 HW4
     go_wp2_with fail
     rw [← HW4'.out]
     try rw [← HP4.out]
     refine Calls.mono HDF.out ?_
     rintro e w5 ⟨hb5, r, xs, o, v, rfl, hcb, hle, hown⟩
     obtain ⟨va, vc, rfl, -, -⟩ := owns_slice hown
     have HB5 := Lib.hid (HBW.out.trans (hb5.mono HBW.out.size))
     have HOV : Hid (OwnStrs w.heap.size w5 (.slice va xs.length vc) xs) := own_lower hown HBW.out.size
     have HAN : Hid (ConAns a b ins r xs o 0) := ⟨.inr (.inr ⟨⟨HVA.out, HVB.out⟩, ⟨HVSA.out, HVSB.out⟩, sa, sb, HOKA.out, HOKB.out, rfl, hcb⟩), hle⟩
     have HOE : o.toList.isEmpty = r := by
      have h2 : o.toList = [] ↔ o = ByteArray.empty := ⟨fun h => toList_inj (by rw [h, Lib.toList_data]; rfl), fun h => by rw [h, Lib.toList_data]; rfl⟩
      rcases hcb with ⟨-, rfl, -, rfl⟩ | ⟨u, hl, rfl, -, ho⟩
      ·rw [List.isEmpty_iff, h2]
      ·have h3 : o ≠ ByteArray.empty := by
        rw [ho]
        exact (head_ne HVSB.out).2 hl.2.1.2.2
       cases h4 : o.toList.isEmpty with
       | false => rfl
       | true => exact absurd (h2.1 (List.isEmpty_iff.1 h4)) h3
     clear hb5 hcb hle hown HDF
     go_wp2
     ((try simp only [Exit.inBlock, Exit.then]); refine bodyPost_ret (results_tmp4 rfl _ _ _) rfl ?_)
     exact ⟨HB5.out, r, xs, o, 0, _, rfl, HAN.out, HOV.out⟩
  ·have HVB := Lib.hid hvb
   clear hva hvb
   go_enter Tryz.func13, Tryz.ntmps13
   go_wp2_with fail
   rw [← HWW.out]
   refine (Decides.yes (l28Is_any _ lo a iv ins _ HSA.out HPA.out HII.out) HVA.out).mono ?_
   rintro e w1 ⟨rfl, hb1⟩
   have HB1 := Lib.hid hb1
   clear hb1
   go_wp2_with fail
   refine (Decides.no (l28Is_any _ lo b iv ins _ HSB.out (HPB.out.below HB1.out) (HII.out.below HB1.out)) HVB.out).mono ?_
   rintro e w2 ⟨rfl, hb2⟩
   have HB2 := Lib.hid (HB0.out.trans ((HB1.out.trans (hb2.mono HB1.out.size)).mono HB0.out.size))
   clear hb2
   go_wp2
   ((try simp only [Exit.inBlock, Exit.then]); refine bodyPost_ret (results_tmp4 rfl _ _ _) rfl ?_)
   exact con_none HB2.out (.inl ⟨fun h => HVB.out h.2, rfl, rfl, rfl, rfl⟩)
 ·have HVA := Lib.hid hva
  clear hva
  go_enter Tryz.func13, Tryz.ntmps13
  go_wp2_with fail
  rw [← HWW.out]
  refine (Decides.no (l28Is_any _ lo a iv ins _ HSA.out HPA.out HII.out) HVA.out).mono ?_
  rintro e w1 ⟨rfl, hb1⟩
  have HB1 := Lib.hid (HB0.out.trans (hb1.mono HB0.out.size))
  clear hb1
  go_wp2
  ((try simp only [Exit.inBlock, Exit.then]); refine bodyPost_ret (results_tmp4 rfl _ _ _) rfl ?_)
  exact con_none HB1.out (.inl ⟨fun h => HVA.out h.1, rfl, rfl, rfl, rfl⟩)

end Go.Proofs.YtaabkeejbhdenaaGreatDoor

namespace Go.Proofs.YtaabkeejbhdenaaGreatDoor
open Go Go.RowKit

/-- The name of a label. -/
theorem LabelName_any (s : ByteArray) (w : World) (hs : s.size ≤ 1048576) (hl : labelOk s.data.toList = true) (g : Glob w) :
  Calls Tryz.prog 77 #[.string s] w fun e w' => e = .returned (.string ⟨(labName s).toArray⟩) ∧ Below w.heap.size w w' := by
 have G := Lib.hid g
 have HN : Hid ((Lib.cut s.data.toList [40]).1 = labName s) := by
  unfold Hid labName
  rw [cut_eq]
  split
  ·rfl
  ·next h => rw [List.take_of_length_le (by omega)]
 have HOK : Hid (readOk s.data.toList = true) := by unfold Hid; rw [readOk_eq]; exact hl
 clear g hl
 go_enter Tryz.func77, Tryz.ntmps77
 go_wp2_with fail
 refine (readLabel_any _ _ hs G.out).mono ?_
 rintro e w' ⟨n, v, rfl, hb, hn⟩
 have HB := Lib.hid hb
 have HNV := Lib.hid (hn HOK.out)
 clear hb hn
 go_wp2_with fail
 go_ret
 exact ⟨by rw [HNV.out, HN.out]; rfl, HB.out⟩

end Go.Proofs.YtaabkeejbhdenaaGreatDoor

namespace Go.Proofs.YtaabkeejbhdenaaGreatDoor
open Go Go.RowKit

theorem ContainsFuncS (lo : Nat) (v : Value) (xs : List ByteArray) (fid : Nat) (caps : Array Value) (P : ByteArray → Bool) (w : World) (hv : SliceK 1 encS lo w v xs) (eg : ∀ args w, (callFunc fid args).run Tryz.prog w = .ok (.enter fid args) w) (hP : AskS fid caps P xs w.heap.size w) :
  Calls Tryz.prog 75 #[v, .func (.func fid) #[] caps] w fun e w' => e = .returned (.bool (xs.any P)) ∧ Below w.heap.size w w' := by
 have HC := Lib.hid (IndexFuncS lo v xs fid caps P w hv eg hP)
 clear hP
 go_enter Tryz.func75, Tryz.ntmps75
 go_wp2_with fail
 refine Calls.mono HC.out ?_
 rintro e w' ⟨rfl, hb⟩
 have HB := Lib.hid hb
 clear hb
 go_wp2_with fail
 go_ret
 exact ⟨ret_bool idxS_any, HB.out⟩

theorem info_intU : (Tryz.prog.info? 2).map (fun i => (i.zero, i.size, i.bytes)) = some (some (.int .i64 0), 1, 8) := by kernel_rfl
set_option maxRecDepth 100000 in
set_option maxHeartbeats 1000000 in
theorem upTo_any (N : Nat) (w : World) (hN : N ≤ 1000) : Calls Tryz.prog 127 #[.int .i64 N] w (MadeNums (upI N) w) := by
 obtain ⟨i1, hi1, hz10, hz11, hz12⟩ := info_parts info_intU
 go_enter Tryz.func127, Tryz.ntmps127
 go_wp2
 go_loopw [3, 6] (fun v3 v6 wr => ∃ k : Nat, k ≤ N ∧ v6 = .int .i64 k ∧ Below w.heap.size w wr ∧ wr.ownsRow w.heap.size 2 1 v3 k ((upI k).map (Value.int .i64))) (fun _ v6 _ => N - (intOf v6).toNat)
 case atStart => exact ⟨0, Nat.zero_le _, rfl, Below.refl _ _, World.ownsRow_nil _ _ _ _⟩
 case round =>
  obtain ⟨k, hk, rfl, hbl, ho⟩ := hrel
  have HBL := Lib.hid hbl
  have HO := Lib.hid ho
  have hsz := hbl.size
  obtain ⟨va, vc, rfl, -, -⟩ := owns_slice ho
  by_cases hlt : k < N
  ·have HNX : Hid ((upI (k + 1)).map (Value.int .i64) = (upI k).map (Value.int .i64) ++ [.int .i64 k]) := by unfold Hid; rw [upI_succ, List.map_append]; rfl
   clear hbl ho
   go_wp2_with (at_builtin; refine wpList_append_own _ rfl _ _ 66 rfl w.heap.size 2 i1 (.int .i64 0) 1 8 Tryz.underlying66 hi1 hz10 hz11 hz12 rfl (by decide) _ k _ rfl (HO.out.alloc _) ⟨wr.heap.size, 0, none⟩ 1 1 [.int .i64 k] rfl rfl ?c1 ?c2 ?c3 ?c4 ?c5 ?_)
   case c1 => exact World.news_of_block (cs := #[.int .i64 k]) (t := 2) (fr := (0, 0)) (heap_alloc_new _ _)
   case c2 => intro u hu; simp at hu; subst hu; rfl
   case c3 => simp [maxLen]; omega
   case c4 => omega
   case c5 => first | omega | (simp; omega)
   intro v7 w7 ho7 hg7 _
   have HB7 : Hid (Below w.heap.size w w7) := (HBL.out.alloc hsz _).grown hg7 (by simp; omega) (fun b e => (HO.out.lt b e).1)
   have HO7 : Hid (w7.ownsRow w.heap.size 2 1 v7 (k + 1) ((upI (k + 1)).map (Value.int .i64))) := by unfold Hid; rw [HNX.out]; exact ho7
   clear ho7 hg7
   go_wp2
   go_roundw
   case rel => exact ⟨k + 1, by omega, by go_num, HB7.out, HO7.out⟩
   case measure => simp [intOf]; omega
  ·obtain rfl : k = N := by omega
   clear hbl ho
   go_wp2
   go_ret
   exact ⟨_, rfl, HBL.out, by rw [upI_len]; exact HO.out⟩

set_option maxRecDepth 100000 in
theorem acts1_any (s : ByteArray) (w : World) (hs : s.size ≤ 1073741824) : Calls Tryz.prog 161 #[.string s] w fun e w' => e = .returned (.bool (!isAction s.data.toList)) ∧ Below w.heap.size w w' := by
 have HC := Lib.hid (IsAction_any s w hs)
 go_enter Tryz.func161, Tryz.ntmps161
 go_wp2_with fail
 refine Calls.mono HC.out ?_
 rintro e w' ⟨rfl, rfl⟩
 go_wp2
 go_ret
 exact ⟨rfl, Below.refl _ _⟩
set_option maxRecDepth 100000 in
theorem areActions_any (lo : Nat) (v : Value) (ss : List ByteArray) (w : World) (hsh : Short20 ss) (hv : SliceK 1 encS lo w v ss) : Calls Tryz.prog 123 #[v] w fun e w' => e = .returned (.bool (!ss.any fun s => !isAction s.data.toList)) ∧ Below w.heap.size w w' := by
 have HC := Lib.hid (ContainsFuncS lo v ss 161 #[] (fun s => !isAction s.data.toList) w hv (fun args w => by kernel_rfl) fun w' _ x hx => acts1_any x w' (by obtain ⟨i, hi, rfl⟩ := List.mem_iff_getElem.1 hx; exact Nat.le_trans (hsh i hi) (by decide)))
 clear hsh hv
 go_enter Tryz.func123, Tryz.ntmps123
 go_wp2_with fail
 refine Calls.mono HC.out ?_
 rintro e w' ⟨rfl, hb⟩
 have HB := Lib.hid hb
 clear hb
 go_wp2
 go_ret
 exact ⟨rfl, HB.out⟩
/-- Names of actions, strictly increasing. -/
def NamesUp (ss : List ByteArray) : Prop := (∀ i (h : i < ss.length), isAction ss[i].data.toList = true) ∧ ∀ i (h : i + 1 < ss.length), strLess ss[i] ss[i + 1] = true

set_option maxRecDepth 100000 in
set_option maxHeartbeats 2000000 in
theorem namesIncrease_any (lo : Nat) (v : Value) (ss : List ByteArray) (w : World) (hsh : Short20 ss) (hv : SliceK 1 encS lo w v ss) : Calls Tryz.prog 73 #[v] w (Decides (NamesUp ss) w) := by
 have HV := Lib.hid hv
 obtain ⟨a, cap, rfl, hn, hcap, hrow⟩ := hv
 have HSH := Lib.hid hsh
 have HROW := Lib.hid hrow
 clear hsh hrow
 go_enter Tryz.func73, Tryz.ntmps73
 go_wp2
 go_loopw [7] (fun i wr => ∃ k : Nat, k ≤ ss.length ∧ i = .int .i64 k ∧ Below w.heap.size w wr ∧ (∀ j (h : j + 1 < ss.length), j + 1 < k → strLess ss[j] ss[j + 1] = true)) (fun i _ => ss.length - (intOf i).toNat)
 case atStart => exact ⟨0, Nat.zero_le _, rfl, Below.refl _ _, fun _ _ h => by omega⟩
 case round =>
  obtain ⟨k, hk, rfl, hbl, hx2⟩ := hrel
  have HBL := Lib.hid hbl
  have HRR := Lib.hid (HROW.out.below hbl)
  have HX2 := Lib.hid hx2
  have hsz9 := hbl.size
  clear hx2
  by_cases hlt : k < ss.length
  ·obtain ⟨b, o, rfl, -, hb, c⟩ := HRR.out.one hlt
   simp only [encS, List.getElem?_cons_zero] at c
   obtain ⟨x, hx⟩ : ∃ x, x = ss[k] := ⟨_, rfl⟩
   rw [← hx] at c
   have HX := Lib.hid hx
   clear hx hbl
   rcases Nat.eq_zero_or_pos k with hk0 | hk0
   ·have hk1 : decide ((0 : Int) < (k : Int)) = false := by rw [decide_eq_false_iff_not]; omega
    have hk3 : ¬ (0 : Int) < (k : Int) := by omega
    have hk4 : ¬ 0 < k := by omega
    have HK : Hid (k = 0) := hk0
    clear hk0
    go_wp2
    go_roundw
    case rel => exact ⟨k + 1, by omega, by go_num, HBL.out, fun j h h' => by have := HK.out; omega⟩
    case measure => simp [intOf]; omega
   ·obtain ⟨m, rfl⟩ : ∃ m, k = m + 1 := ⟨k - 1, by omega⟩
    clear hk0
    obtain ⟨_, _, e9, -, -, c2⟩ := HRR.out.one (show m < ss.length by omega)
    simp only [Option.some.injEq, Addr.mk.injEq, and_true] at e9
    obtain ⟨rfl, rfl⟩ := e9
    simp only [encS, List.getElem?_cons_zero] at c2
    obtain ⟨y, hy⟩ : ∃ y, y = ss[m] := ⟨_, rfl⟩
    rw [← hy] at c2
    have HY := Lib.hid hy
    clear hy
    have hk1 : decide ((0 : Int) < (m : Int) + 1) = true := by rw [decide_eq_true_eq]; omega
    have hk2 : (0 : Int) < (m : Int) + 1 := by omega
    cases h3 : Op.bytesLess y.toList x.toList
    ·have h4 : (Op.bytesLess x.toList y.toList || x.toList == y.toList) = true := by rw [less_leq, h3]; rfl
     have H3 := Lib.hid h3
     clear h3
     go_wp2
     go_ret
     refine ⟨false, rfl, ⟨(fun h => by cases h), fun h => ?_⟩, HBL.out⟩
     have h5 := h.2 m hlt
     unfold strLess at h5
     rw [← HX.out, ← HY.out, H3.out] at h5
     cases h5
    ·have h4 : (Op.bytesLess x.toList y.toList || x.toList == y.toList) = false := by rw [less_leq, h3]; rfl
     have H3 := Lib.hid h3
     clear h3
     go_wp2
     go_roundw
     case rel => exact ⟨m + 1 + 1, by omega, by go_num, HBL.out, fun j h h' => by
       by_cases e : j = m
       ·subst e; unfold strLess; rw [← HX.out, ← HY.out]; exact H3.out
       ·exact HX2.out j h (by omega)⟩
     case measure => simp [intOf]; omega
  ·have HAC := Lib.hid (areActions_any lo _ ss wr HSH.out (HV.out.below hbl))
   have HUP : Hid (∀ i (h : i + 1 < ss.length), strLess ss[i] ss[i + 1] = true) := fun i h => HX2.out i h (by omega)
   clear hbl
   go_wp2_with fail
   refine Calls.mono HAC.out ?_
   rintro e w1 ⟨rfl, hb1⟩
   have HB1 := Lib.hid (HBL.out.trans (hb1.mono hsz9))
   clear hb1 HAC
   go_wp2
   go_ret
   refine ⟨_, rfl, ?_, HB1.out⟩
   rw [Bool.not_eq_true', List.any_eq_false]
   constructor
   ·intro h
    exact ⟨fun i hi => by have := h _ (List.getElem_mem hi); simpa using this, HUP.out⟩
   ·rintro ⟨h, -⟩ x hx
    obtain ⟨i, hi, rfl⟩ := List.mem_iff_getElem.1 hx
    rw [h i hi]
    simp

theorem name_bytes (l : ByteArray) : (⟨(labName l).toArray⟩ : ByteArray).toList = labName l := by rw [Lib.toList_data]
set_option maxRecDepth 100000 in
theorem isInput_any (lo : Nat) (v : Value) (ins : List ByteArray) (l : ByteArray) (w : World) (hv : SliceK 1 encS lo w v ins) (hs : l.size ≤ 1048576) (hl : labelOk l.data.toList = true) (g : Glob w) :
  Calls Tryz.prog 131 #[v, .string l] w fun e w' => e = .returned (.bool (!outB ins l)) ∧ Below w.heap.size w w' := by
 have HN := Lib.hid (LabelName_any l w hs hl g)
 have HV := Lib.hid hv
 have HO : Hid ((ins.any fun y => y.toList == (⟨(labName l).toArray⟩ : ByteArray).toList) = !outB ins l) := by unfold Hid outB; rw [name_bytes, Bool.not_not]
 obtain ⟨nm, hnm⟩ : ∃ nm : ByteArray, nm = ⟨(labName l).toArray⟩ := ⟨_, rfl⟩
 rw [← hnm] at HN HO
 clear hv g hnm
 go_enter Tryz.func131, Tryz.ntmps131
 go_wp2_with fail
 refine Calls.mono HN.out ?_
 rintro e w1 ⟨rfl, hb1⟩
 have HB1 := Lib.hid hb1
 have HC := Lib.hid (Contains_strs lo v nm ins w1 (HV.out.below hb1))
 rw [HO.out] at HC
 clear hb1 HN
 go_wp2_with fail
 refine Calls.mono HC.out ?_
 rintro e w2 ⟨rfl, rfl⟩
 go_wp2
 go_ret
 exact ⟨rfl, HB1.out⟩

end Go.Proofs.YtaabkeejbhdenaaGreatDoor

namespace Go.Proofs.YtaabkeejbhdenaaGreatDoor
open Go Go.RowKit

theorem lab_ok {t : Lts} (hv : Valid t) : ∀ l ∈ t.labels, labelOk l.data.toList = true := by
 intro l hl
 obtain ⟨i, hi, rfl⟩ := List.mem_iff_getElem.1 hl
 by_cases h0 : i = 0
 ·subst h0
  have h := hv.labels.first hi
  rw [Lib.toList_data] at h
  rw [h]
  decide
 ·exact hv.labels.label i hi (by omega)
theorem short_mem {ss : List ByteArray} (h : Short20 ss) : ∀ s ∈ ss, s.size ≤ 1048576 := by
 intro s hs
 obtain ⟨i, hi, rfl⟩ := List.mem_iff_getElem.1 hs
 exact h i hi
theorem rdy_mem {t : Lts} (hv : Valid t) {k : Int} : ∀ l ∈ rdy t k, l ∈ t.labels := by
 intro l hl
 unfold rdy at hl
 rw [(labSet_is _).2, List.mem_map] at hl
 obtain ⟨e, he, rfl⟩ := hl
 exact lab_mem hv (List.mem_filter.1 he).1
/-- Names of actions are no tau. -/
theorem tau_out {ins : List ByteArray} (h : ∀ i (h : i < ins.length), isAction ins[i].data.toList = true) : outB ins tauT = true := by
 unfold outB
 rw [Bool.not_eq_true', List.any_eq_false]
 intro s hs hh
 obtain ⟨i, hi, rfl⟩ := List.mem_iff_getElem.1 hs
 have h1 := h i hi
 rw [beq_iff_eq, Lib.toList_data] at hh
 rw [hh, show labName tauT = tauL from by unfold labName; decide, isAction_tau] at h1
 cases h1
theorem quiet_rdy {t : Lts} {ins : List ByteArray} (h : IfOk t ins) (k : Int) : quietB t ins k = !(rdy t k).any (outB ins) := by
 have hv := h.valid
 rw [Bool.eq_iff_iff, Bool.not_eq_true', List.any_eq_false]
 unfold quietB
 rw [List.all_eq_true]
 constructor
 ·intro hq l hl
  unfold rdy at hl
  rw [(labSet_is _).2, List.mem_map] at hl
  obtain ⟨e, he, rfl⟩ := hl
  unfold outOf at he
  obtain ⟨h1, h2⟩ := List.mem_filter.1 he
  have := hq e h1
  rw [h2] at this
  simp at this
  simp [this.2]
 ·intro hq e he
  by_cases hs : (e.src == k) = true
  ·have h1 : outB ins (labAt t e) = false := by
    rw [Bool.eq_false_iff]
    refine hq _ ?_
    unfold rdy
    rw [(labSet_is _).2, List.mem_map]
    exact ⟨e, List.mem_filter.2 ⟨he, hs⟩, rfl⟩
   have h2 : (e.lab == 0) = false := by
    rw [beq_eq_false_iff_ne]
    intro h0
    rw [(lab_tau hv he).2 h0, tau_out h.acts] at h1
    cases h1
   rw [h1, h2]
   simp
  ·simp [Bool.eq_false_iff.2 hs]
theorem quiets_del {t : Lts} {ins : List ByteArray} (h : IfOk t ins) : ((upI t.states.toNat).filter fun k => !(rdy t k).any (outB ins)) = quiets t ins := by
 unfold quiets
 congr 1
 funext k
 exact (quiet_rdy h k).symm

set_option maxRecDepth 100000 in
theorem qui11_any (lo bi : Nat) (v : Value) (ins : List ByteArray) (l : ByteArray) (w : World) (hc : w.cell? ⟨bi, 0, none⟩ = some v) (hv : SliceK 1 encS lo w v ins) (hs : l.size ≤ 1048576) (hl : labelOk l.data.toList = true) (g : Glob w) :
  Calls Tryz.prog 130 #[.string l, .pointer (some ⟨bi, 0, none⟩)] w fun e w' => e = .returned (.bool (outB ins l)) ∧ Below w.heap.size w w' := by
 obtain ⟨a, c, hv2, -⟩ := id hv
 have HI := Lib.hid (isInput_any lo v ins l w hv hs hl g)
 rw [hv2] at hc HI
 clear hv g hs hl hv2
 obtain ⟨n, hn⟩ : ∃ n, n = ins.length := ⟨_, rfl⟩
 rw [← hn] at hc HI
 clear hn
 go_enter Tryz.func130, Tryz.ntmps130
 go_wp2_with fail
 refine Calls.mono HI.out ?_
 rintro e w1 ⟨rfl, hb1⟩
 have HB1 := Lib.hid hb1
 clear hb1 HI
 go_wp2
 go_ret
 exact ⟨ret_bool (by simp), HB1.out⟩

set_option maxRecDepth 100000 in
theorem qui1_any (lo tb bi : Nat) (t : Lts) (lv ev v : Value) (ins : List ByteArray) (k : Int) (w : World) (hv : Valid t) (hT : Blk w tb [.int .i64 t.states, .int .i64 t.initial, lv, ev] 29) (hI : w.cell? ⟨bi, 0, none⟩ = some v) (hbi : bi < w.heap.size)
  (hl : SliceK 1 encS lo w lv t.labels) (he : SliceK 3 encE lo w ev t.edges) (hi : SliceK 1 encS lo w v ins) (hsh : Short20 t.labels) (g : Glob w) :
  Calls Tryz.prog 128 #[.int .i64 k, .pointer (some ⟨tb, 0, none⟩), .pointer (some ⟨bi, 0, none⟩)] w fun e w' => e = .returned (.bool ((rdy t k).any (outB ins))) ∧ Below w.heap.size w w' := by
 have HR := Lib.hid (readyLabels_any lo t lv ev k w hv hl he)
 have HQ : Hid (∀ w', Below w.heap.size w w' → ∀ v2, OwnStrs w.heap.size w' v2 (rdy t k) → Calls Tryz.prog 75 #[v2, .func (.func 130) #[] #[.pointer (some ⟨bi, 0, none⟩)]] w' fun e w'' => e = .returned (.bool ((rdy t k).any (outB ins))) ∧ Below w'.heap.size w' w'') := fun w' hb v2 ho =>
  ContainsFuncS w.heap.size v2 (rdy t k) 130 #[.pointer (some ⟨bi, 0, none⟩)] (outB ins) w' (SliceK.of_owns (e := 9) encS_len rfl (by rw [flat_encS]; exact ho)) (fun args w => by kernel_rfl)
   fun w2 hb2 x hx => qui11_any lo bi v ins x w2 (keeps (hb.trans (hb2.mono hb.size)) hbi hI) (hi.below (hb.trans (hb2.mono hb.size))) (short_mem hsh x (rdy_mem hv x hx)) (lab_ok hv x (rdy_mem hv x hx)) (g.below (hb.trans (hb2.mono hb.size)))
 have t0 := hT.cell 0 rfl
 have t1 := hT.cell 1 rfl
 have t2 := hT.cell 2 rfl
 have t3 := hT.cell 3 rfl
 clear hv hT hI hbi hl he hi hsh g
 go_enter Tryz.func128, Tryz.ntmps128
 go_wp2_with fail
 refine Calls.mono HR.out ?_
 rintro e w1 ⟨v2, rfl, hb1, ho1⟩
 have HB1 := Lib.hid hb1
 have HC := Lib.hid (HQ.out w1 hb1 v2 ho1)
 clear hb1 ho1 HR HQ t0 t1 t2 t3
 go_wp2_with fail
 refine Calls.mono HC.out ?_
 rintro e w2 ⟨rfl, hb2⟩
 have HB2 := Lib.hid (HB1.out.trans (hb2.mono HB1.out.size))
 clear hb2 HC
 go_wp2
 go_ret
 exact ⟨rfl, HB2.out⟩

set_option maxRecDepth 100000 in
set_option maxHeartbeats 1000000 in
theorem quiescent_any (lo : Nat) (t : Lts) (lv ev v : Value) (ins : List ByteArray) (w : World) (h : IfOk t ins) (hl : SliceK 1 encS lo w lv t.labels) (he : SliceK 3 encE lo w ev t.edges) (hi : SliceK 1 encS lo w v ins) (hsh : Short20 t.labels) (g : Glob w) :
  Calls Tryz.prog 80 #[.agg #[.int .i64 t.states, .int .i64 t.initial, lv, ev], v] w (MadeNums (quiets t ins) w) := by
 obtain ⟨tb, htb⟩ : ∃ tb, tb = w.heap.size := ⟨_, rfl⟩
 obtain ⟨ia, ic, hiv, -⟩ := id hi
 obtain ⟨wA, hwA⟩ : ∃ wA, wA = (w.alloc (.cells #[.int .i64 t.states, .int .i64 t.initial, lv, ev] 29)).alloc (.cells #[v] 22) := ⟨_, rfl⟩
 have hbA : Below w.heap.size w wA := by rw [hwA]; exact ((Below.refl _ _).alloc (Nat.le_refl _) _).alloc (by simp) _
 have hsA : wA.heap.size = tb + 1 + 1 := by rw [hwA, htb]; simp
 have hT : Blk wA tb [.int .i64 t.states, .int .i64 t.initial, lv, ev] 29 := by rw [hwA, htb]; exact (Blk.new w _ _).alloc _
 have hR : Blk wA (tb + 1) [v] 22 := by
  have := Blk.new (w.alloc (.cells #[.int .i64 t.states, .int .i64 t.initial, lv, ev] 29)) [v] 22
  rw [World.size_alloc, ← htb] at this
  rw [hwA]
  exact this
 have hP : AskI 128 #[.pointer (some ⟨tb, 0, none⟩), .pointer (some ⟨tb + 1, 0, none⟩)] (fun k => (rdy t k).any (outB ins)) (upI t.states.toNat) wA.heap.size wA := fun w' hb x _ =>
  qui1_any lo tb (tb + 1) t lv ev v ins x w' h.valid (hT.below hb) (keeps hb (by omega) (hR.cell 0 rfl)) (Nat.lt_of_lt_of_le (by omega) hb.size) ((hl.below hbA).below hb) ((he.below hbA).below hb) ((hi.below hbA).below hb) hsh ((g.below hbA).below hb)
 have HU : Hid (Calls Tryz.prog 127 #[.int .i64 t.states] wA (MadeNums (upI t.states.toNat) wA)) := by
  have := upTo_any t.states.toNat wA (by have := h.valid.st1; omega)
  rw [show ((t.states.toNat : Nat) : Int) = t.states from by have := h.valid.st0; omega] at this
  exact this
 have HD : Hid (∀ w1 nv, Below wA.heap.size wA w1 → w1.ownsRow wA.heap.size 2 1 nv (upI t.states.toNat).length ((upI t.states.toNat).map (Value.int .i64)) → Calls Tryz.prog 126 #[nv, .func (.func 128) #[] #[.pointer (some ⟨tb, 0, none⟩), .pointer (some ⟨tb + 1, 0, none⟩)]] w1 fun e w' => ∃ v', e = .returned v' ∧ Below wA.heap.size wA w' ∧ w'.ownsRow wA.heap.size 2 1 v' (quiets t ins).length ((quiets t ins).map (Value.int .i64))) := by
  intro w1 nv hb ho
  have := DeleteFuncI wA.heap.size nv (upI t.states.toNat) 128 #[.pointer (some ⟨tb, 0, none⟩), .pointer (some ⟨tb + 1, 0, none⟩)] (fun k => (rdy t k).any (outB ins)) wA w1 ho hb hb.size (fun args w => by kernel_rfl) hP
  rw [quiets_del h] at this
  exact this
 have t0 := hT.cell 0 rfl
 have HBA := Lib.hid hbA
 have HWA := Lib.hid hwA
 have HTB := Lib.hid htb
 subst hiv
 obtain ⟨n, hn⟩ : ∃ n, n = ins.length := ⟨_, rfl⟩
 rw [← hn] at HWA
 rw [← hn]
 rw [hwA, ← hn] at t0
 clear h hl he hi hsh g hbA hsA hT hR hP hn hwA htb
 go_enter Tryz.func80, Tryz.ntmps80
 go_wp2_with fail
 rw [← HWA.out]
 refine Calls.mono HU.out ?_
 rintro e w1 ⟨nv, rfl, hb1, ho1⟩
 have HC := Lib.hid (HD.out w1 nv hb1 ho1)
 clear hb1 ho1 HU HD t0
 rw [HTB.out] at HC
 go_wp2_with fail
 refine Calls.mono HC.out ?_
 rintro e w2 ⟨v2, rfl, hb2, ho2⟩
 have HB2 := Lib.hid hb2
 have HO2 := Lib.hid ho2
 clear hb2 ho2 HC
 go_wp2
 go_ret
 exact ⟨_, rfl, HBA.out.trans (HB2.out.mono HBA.out.size), own_lower HO2.out HBA.out.size⟩

end Go.Proofs.YtaabkeejbhdenaaGreatDoor

namespace Go.Proofs.YtaabkeejbhdenaaGreatDoor
open Go Go.RowKit

theorem slice_from (T e : TypeId) (s : Nat) (hT : Tryz.prog.underlying T = some (.slice e)) (hs : ∀ w, (sizeOf e).run Tryz.prog w = .ok s w) (a : Addr) (n c : Nat) (hn : 1 ≤ n) (w : World) :
  (Instr.slice T (.slice (some a) n c) (some (.int .i64 1)) none none).run Tryz.prog w = .ok (.slice (some (if c = 1 then a else a.add s)) (n - 1) (c - 1)) w := by
 have hel : Tryz.prog.elem T = e := by simp [Program.elem, hT]
 rw [run_slice_l w T (some a) n c (by rw [hel]; exact hT) .i64 1 (by decide) (by omega), hel, hs]
 simp only [Result.andThen, sliced, Nat.one_mul, Int.toNat_one]
 by_cases h : c = 1
 ·simp [h]
 ·simp [h]
theorem SliceK.dropO {lo LL cl : Nat} {w : World} {L : List ByteArray} {a pk : Addr} (h : SliceK 1 encS lo w (.slice (some a) LL cl) L) (h1 : 1 ≤ LL) (hpk : pk = (if cl = 1 then a else a.add 1)) :
  SliceK 1 encS lo w (.slice (some pk) (LL - 1) (cl - 1)) (L.drop 1) := by
 obtain ⟨b9, c, h2, h3, h4, h5⟩ := h
 simp only [Value.slice.injEq] at h2
 obtain ⟨rfl, rfl, rfl⟩ := h2
 refine ⟨_, _, by rw [List.length_drop], by rw [List.length_drop]; omega, by omega, ?_⟩
 by_cases hc : cl = 1
 ·left; rw [List.length_drop]; omega
 ·rw [if_neg hc] at hpk
  rcases h5 with h5 | ⟨b, o, h6, h7, h8, h9⟩
  ·omega
  ·simp only [Option.some.injEq] at h6
   subst h6
   rw [Addr.add_lit] at hpk
   subst hpk
   refine .inr ⟨_, _, rfl, h7, h8, fun i hi j hj => ?_⟩
   rw [List.length_drop] at hi
   have := h9 (i + 1) (by omega) j hj
   rw [List.getElem_drop]
   rw [show o + 1 + i * 1 + j = o + (i + 1) * 1 + j from by omega, this]
   congr 1
   congr 1
   congr 1
   omega

end Go.Proofs.YtaabkeejbhdenaaGreatDoor

namespace Go.Proofs.YtaabkeejbhdenaaGreatDoor
open Go Go.RowKit

set_option maxRecDepth 100000 in
theorem lacking1_any (lo ob : Nat) (ov : Value) (other : List ByteArray) (s : ByteArray) (w : World) (ho : SliceK 1 encS lo w ov other) (hb : Blk w ob [ov] 22) :
  Calls Tryz.prog 134 #[.string s, .pointer (some ⟨ob, 0, none⟩)] w fun e w' => e = .returned (.bool (inT other s)) ∧ Below w.heap.size w w' := by
 have HC := Lib.hid (Contains_strs lo ov s other w ho)
 have x0 := hb.cell 0 rfl
 clear ho hb
 go_enter Tryz.func134, Tryz.ntmps134
 go_wp2_with fail
 refine Calls.mono HC.out ?_
 rintro e w1 ⟨rfl, rfl⟩
 go_wp2
 go_ret
 exact ⟨rfl, Below.refl _ _⟩
set_option maxRecDepth 100000 in
theorem lacking_any (lo lo2 : Nat) (sv ov : Value) (set other : List ByteArray) (w : World) (hs : SliceK 1 encS lo w sv set) (ho : SliceK 1 encS lo2 w ov other) (hz : set.length ≤ 1048576) :
  Calls Tryz.prog 84 #[sv, ov] w (MadeTxI (lackL set other) w) := by
 obtain ⟨ob, hob⟩ : ∃ ob, ob = w.heap.size := ⟨_, rfl⟩
 obtain ⟨wA, hwA⟩ : ∃ wA, wA = w.alloc (.cells #[ov] 22) := ⟨_, rfl⟩
 have hbA : Below w.heap.size w wA := by rw [hwA]; exact (Below.refl _ _).alloc (Nat.le_refl _) _
 have hX : Blk wA ob [ov] 22 := by rw [hwA, hob]; exact Blk.new w _ _
 have HCL := Lib.hid (CloneS_own lo sv set wA (hs.below hbA) hz)
 have HOV := Lib.hid (ho.below hbA)
 have HX := Lib.hid hX
 have HBA := Lib.hid hbA
 have HWA := Lib.hid hwA
 have HOB := Lib.hid hob
 obtain ⟨oa, oc, rfl, -, -, -⟩ := ho
 clear hs hbA hX hwA hob
 go_enter Tryz.func84, Tryz.ntmps84
 go_wp2_with fail
 rw [← HWA.out]
 try rw [← HOB.out]
 refine Calls.mono HCL.out ?_
 rintro e w1 ⟨v1, rfl, ho1, hb1⟩
 have HDF := Lib.hid (DeleteFuncS wA.heap.size v1 set 134 #[.pointer (some ⟨ob, 0, none⟩)] (inT other) wA w1 ho1 hb1 hb1.size (fun args w => by kernel_rfl) fun w' hb x _ => lacking1_any lo2 ob _ other x w' (HOV.out.below hb) (HX.out.below hb))
 clear ho1 hb1 HCL
 go_wp2_with fail
 refine Calls.mono HDF.out ?_
 rintro e w2 ⟨v2, rfl, hb2, ho2⟩
 have HB2 := Lib.hid (HBA.out.trans (hb2.mono HBA.out.size))
 have HO2 := Lib.hid (own_lower ho2 HBA.out.size)
 clear hb2 ho2 HDF
 go_wp2
 go_ret
 exact ⟨_, rfl, HB2.out, HO2.out⟩

end Go.Proofs.YtaabkeejbhdenaaGreatDoor

namespace Go.Proofs.YtaabkeejbhdenaaGreatDoor
open Go Go.RowKit

set_option maxRecDepth 100000 in
set_option maxHeartbeats 1000000 in
theorem out1_any (lo lo2 tb ib sb : Nat) (t : Lts) (lv ev iv sv : Value) (ins : List ByteArray) (S : List Int) (l : ByteArray) (w : World) (hv : Valid t) (hl : SliceK 1 encS lo w lv t.labels) (he : SliceK 3 encE lo w ev t.edges) (hi : SliceK 1 encS lo w iv ins)
  (hS : SliceK 1 encI lo2 w sv S) (hT : Blk w tb [.int .i64 t.states, .int .i64 t.initial, lv, ev] 29) (hI : Blk w ib [iv] 22) (hSb : Blk w sb [sv] 66) (hs : l.size ≤ 1048576) (hlb : labelOk l.data.toList = true) (g : Glob w) :
  Calls Tryz.prog 135 #[.string l, .pointer (some ⟨ib, 0, none⟩), .pointer (some ⟨tb, 0, none⟩), .pointer (some ⟨sb, 0, none⟩)] w fun e w' => e = .returned (.bool (!(outB ins l && decide (0 < (followL t S l).length)))) ∧ Below w.heap.size w w' := by
 have HI := Lib.hid (isInput_any lo iv ins l w hi hs hlb g)
 have HF : Hid (∀ w', Below w.heap.size w w' → Calls Tryz.prog 100 #[.agg #[.int .i64 t.states, .int .i64 t.initial, lv, ev], sv, .string l] w' (MadeNums (followL t S l) w')) := fun w' hb => follow_any lo lo2 t lv ev sv S l w' hv (hl.below hb) (he.below hb) (hS.below hb)
 have hfl := followL_len hv.most S l
 obtain ⟨KN, hKN⟩ : ∃ KN, KN = (followL t S l).length := ⟨_, rfl⟩
 rw [← hKN] at hfl ⊢
 have HKN := Lib.hid hKN
 have HT := Lib.hid hT
 have HSB := Lib.hid hSb
 have x0 := hI.cell 0 rfl
 clear hv hl he hi hS hT hI hSb hs hlb g hKN
 obtain ⟨c, hc⟩ : ∃ c, c = outB ins l := ⟨_, rfl⟩
 rw [← hc] at HI ⊢
 clear hc
 cases c
 ·go_enter Tryz.func135, Tryz.ntmps135
  go_wp2_with fail
  refine Calls.mono HI.out ?_
  rintro e w1 ⟨rfl, hb1⟩
  have HB1 := Lib.hid hb1
  clear hb1 HI x0
  go_wp2
  go_ret
  exact ⟨rfl, HB1.out⟩
 ·go_enter Tryz.func135, Tryz.ntmps135
  go_wp2_with fail
  refine Calls.mono HI.out ?_
  rintro e w1 ⟨rfl, hb1⟩
  have HB1 := Lib.hid hb1
  have t0 := (HT.out.below hb1).cell 0 rfl
  have t1 := (HT.out.below hb1).cell 1 rfl
  have t2 := (HT.out.below hb1).cell 2 rfl
  have t3 := (HT.out.below hb1).cell 3 rfl
  have s0 := (HSB.out.below hb1).cell 0 rfl
  have HF1 := Lib.hid (HF.out w1 hb1)
  clear hb1 HI HF x0
  go_wp2_with fail
  refine Calls.mono HF1.out ?_
  rintro e w2 ⟨v2, rfl, hb2, ho2⟩
  obtain ⟨a2, c2, rfl, -, -⟩ := owns_slice ho2
  rw [← HKN.out]
  have HB2 := Lib.hid (HB1.out.trans (hb2.mono HB1.out.size))
  have HRB : Hid (((KN : Int) == 0) = !(true && decide (0 < KN))) := by
   unfold Hid
   rw [Bool.true_and, Bool.eq_iff_iff, beq_iff_eq, Bool.not_eq_true', decide_eq_false_iff_not]
   omega
  clear hb2 ho2 HF1 t0 t1 t2 t3 s0
  go_wp2
  go_ret
  exact ⟨ret_bool HRB.out, HB2.out⟩

set_option maxRecDepth 100000 in
set_option maxHeartbeats 2000000 in
theorem outputs_any (lo lo2 : Nat) (t : Lts) (lv ev iv sv : Value) (ins : List ByteArray) (S : List Int) (w : World) (hv : Valid t) (hsh : Short20 t.labels) (hl : SliceK 1 encS lo w lv t.labels) (he : SliceK 3 encE lo w ev t.edges) (hi : SliceK 1 encS lo w iv ins)
  (hS : SliceK 1 encI lo2 w sv S) (g : Glob w) :
  Calls Tryz.prog 85 #[.agg #[.int .i64 t.states, .int .i64 t.initial, lv, ev], iv, sv] w (MadeTxI (outsL t ins S) w) := by
 obtain ⟨ia, ic, hiv, -⟩ := id hi
 obtain ⟨ta, tc, hsv, -⟩ := id hS
 obtain ⟨n1, hn1⟩ : ∃ n1, n1 = ins.length := ⟨_, rfl⟩
 obtain ⟨n2, hn2⟩ : ∃ n2, n2 = S.length := ⟨_, rfl⟩
 rw [← hn1] at hiv
 rw [← hn2] at hsv
 clear hn1 hn2
 subst hiv hsv
 obtain ⟨iv, hiv⟩ : ∃ iv, iv = Value.slice ia n1 ic := ⟨_, rfl⟩
 obtain ⟨sv, hsv⟩ : ∃ sv, sv = Value.slice ta n2 tc := ⟨_, rfl⟩
 rw [← hiv] at hi ⊢
 rw [← hsv] at hS ⊢
 obtain ⟨tb, htb⟩ : ∃ tb, tb = w.heap.size := ⟨_, rfl⟩
 obtain ⟨wA, hwA⟩ : ∃ wA, wA = ((w.alloc (.cells #[.int .i64 t.states, .int .i64 t.initial, lv, ev] 29)).alloc (.cells #[iv] 22)).alloc (.cells #[sv] 66) := ⟨_, rfl⟩
 have hbA : Below w.heap.size w wA := by rw [hwA]; exact (((Below.refl _ _).alloc (Nat.le_refl _) _).alloc (by simp) _).alloc (by simp; omega) _
 have hT : Blk wA tb [.int .i64 t.states, .int .i64 t.initial, lv, ev] 29 := by rw [hwA, htb]; exact ((Blk.new w _ _).alloc _).alloc _
 have hI : Blk wA (tb + 1) [iv] 22 := by
  have := (Blk.new (w.alloc (.cells #[.int .i64 t.states, .int .i64 t.initial, lv, ev] 29)) [iv] 22).alloc (.cells #[sv] 66)
  rw [World.size_alloc, ← htb] at this
  rw [hwA]
  exact this
 have hSb : Blk wA (tb + 1 + 1) [sv] 66 := by
  have := Blk.new ((w.alloc (.cells #[.int .i64 t.states, .int .i64 t.initial, lv, ev] 29)).alloc (.cells #[iv] 22)) [sv] 66
  rw [World.size_alloc, World.size_alloc, ← htb] at this
  rw [hwA]
  exact this
 have hlp := hv.labels.pos
 have hlm := hv.labels.most
 have hLB := lab_ok hv
 have HP : Hid (AskS 135 #[.pointer (some ⟨tb + 1, 0, none⟩), .pointer (some ⟨tb, 0, none⟩), .pointer (some ⟨tb + 1 + 1, 0, none⟩)] (fun l => !(outB ins l && decide (0 < (followL t S l).length))) (t.labels.drop 1) wA.heap.size wA) := fun w' hb x hx =>
  out1_any lo lo2 tb (tb + 1) (tb + 1 + 1) t lv ev iv sv ins S x w' hv ((hl.below hbA).below hb) ((he.below hbA).below hb) ((hi.below hbA).below hb) ((hS.below hbA).below hb) (hT.below hb) (hI.below hb) (hSb.below hb) (short_mem hsh x (List.drop_subset _ _ hx)) (hLB x (List.drop_subset _ _ hx)) ((g.below hbA).below hb)
 have HT := Lib.hid hT
 have HBA := Lib.hid hbA
 have HWA := Lib.hid hwA
 have HTB := Lib.hid htb
 have hL2 := hl.below hbA
 obtain ⟨al, cl, rfl, h3, h4, h5⟩ := hl
 obtain ⟨LN, hLN⟩ : ∃ LN, LN = t.labels.length := ⟨_, rfl⟩
 rw [← hLN] at hL2 hlp hlm h3
 obtain ⟨ad, rfl⟩ : ∃ ad, al = some ad := by
  rcases h5 with h5 | ⟨b, o, h6, -⟩
  ·omega
  ·exact ⟨_, h6⟩
 obtain ⟨pk, hpk⟩ : ∃ pk, pk = (if cl = 1 then ad else ad.add 1) := ⟨_, rfl⟩
 have HCL := Lib.hid (CloneS_own lo (.slice (some pk) (LN - 1) (cl - 1)) (t.labels.drop 1) wA (hL2.dropO hlp hpk) (by rw [List.length_drop]; omega))
 have hsl := slice_from 22 9 1 Tryz.underlying22 (fun _ => by kernel_rfl) ad LN cl hlp
 rw [← hpk] at hsl
 have t2 := hT.cell 2 rfl
 rw [← hLN] at t2 hwA HWA ⊢
 rw [hwA] at t2
 have HLN := Lib.hid hLN
 have HDF : Hid (∀ w1 v1, Below wA.heap.size wA w1 → w1.ownsRow wA.heap.size 9 1 v1 (t.labels.drop 1).length ((t.labels.drop 1).map Value.string) → Calls Tryz.prog 133 #[v1, .func (.func 135) #[] #[.pointer (some ⟨tb + 1, 0, none⟩), .pointer (some ⟨tb, 0, none⟩), .pointer (some ⟨tb + 1 + 1, 0, none⟩)]] w1 fun e w' => ∃ v', e = .returned v' ∧ Below wA.heap.size wA w' ∧ w'.ownsRow wA.heap.size 9 1 v' (outsL t ins S).length ((outsL t ins S).map Value.string)) := by
  intro w1 v1 hb ho
  have := DeleteFuncS wA.heap.size v1 (t.labels.drop 1) 135 #[.pointer (some ⟨tb + 1, 0, none⟩), .pointer (some ⟨tb, 0, none⟩), .pointer (some ⟨tb + 1 + 1, 0, none⟩)] (fun l => !(outB ins l && decide (0 < (followL t S l).length))) wA w1 ho hb hb.size (fun args w => by kernel_rfl) HP.out
  simp only [Bool.not_not] at this
  exact this
 clear hv hsh h3 h4 h5 he hi hS g hbA hwA htb hL2 hT hI hSb hLB hpk HP hLN
 subst hiv hsv
 go_enter Tryz.func85, Tryz.ntmps85
 go_wp2_with fail
 rw [← HWA.out]
 refine Calls.mono HCL.out ?_
 rintro e w1 ⟨v1, rfl, ho1, hb1⟩
 have HD := Lib.hid (HDF.out w1 v1 hb1 ho1)
 clear ho1 hb1 HCL HDF hsl t2
 rw [← HTB.out]
 go_wp2_with fail
 refine Calls.mono HD.out ?_
 rintro e w2 ⟨v2, rfl, hb2, ho2⟩
 have HB2 := Lib.hid (HBA.out.trans (hb2.mono HBA.out.size))
 have HO2 := Lib.hid (own_lower ho2 HBA.out.size)
 clear hb2 ho2 HD
 go_wp2
 go_ret
 exact ⟨_, rfl, HB2.out, HO2.out⟩

set_option maxRecDepth 100000 in
set_option maxHeartbeats 2000000 in
theorem unexpected_any (lo lo2 lo3 : Nat) (a b : Lts) (la ea lb eb iv sv tv : Value) (ins : List ByteArray) (S T : List Int) (w : World) (hva : Valid a) (hvb : Valid b) (hsa : Short20 a.labels) (hsb : Short20 b.labels) (hal : SliceK 1 encS lo w la a.labels) (hae : SliceK 3 encE lo w ea a.edges)
  (hbl : SliceK 1 encS lo w lb b.labels) (hbe : SliceK 3 encE lo w eb b.edges) (hi : SliceK 1 encS lo w iv ins) (hS : SliceK 1 encI lo2 w sv S) (hT : SliceK 1 encI lo3 w tv T) (g : Glob w) :
  Calls Tryz.prog 38 #[.agg #[.int .i64 a.states, .int .i64 a.initial, la, ea], .agg #[.int .i64 b.states, .int .i64 b.initial, lb, eb], iv, sv, tv] w (MadeTxI (lackL (outsL b ins T) (outsL a ins S)) w) := by
 obtain ⟨tb, htb⟩ : ∃ tb, tb = w.heap.size := ⟨_, rfl⟩
 obtain ⟨wA, hwA⟩ : ∃ wA, wA = (w.alloc (.cells #[.int .i64 a.states, .int .i64 a.initial, la, ea] 29)).alloc (.cells #[.int .i64 b.states, .int .i64 b.initial, lb, eb] 29) := ⟨_, rfl⟩
 have hbA : Below w.heap.size w wA := by rw [hwA]; exact ((Below.refl _ _).alloc (Nat.le_refl _) _).alloc (by simp) _
 have hX : Blk wA tb [.int .i64 a.states, .int .i64 a.initial, la, ea] 29 := by rw [hwA, htb]; exact (Blk.new w _ _).alloc _
 have hY : Blk wA (tb + 1) [.int .i64 b.states, .int .i64 b.initial, lb, eb] 29 := by
  have h := Blk.new (w.alloc (.cells #[.int .i64 a.states, .int .i64 a.initial, la, ea] 29)) [.int .i64 b.states, .int .i64 b.initial, lb, eb] 29
  rw [World.size_alloc, ← htb] at h
  rw [hwA]
  exact h
 have HOA : Hid (∀ w', Below wA.heap.size wA w' → Calls Tryz.prog 85 #[.agg #[.int .i64 a.states, .int .i64 a.initial, la, ea], iv, sv] w' (MadeTxI (outsL a ins S) w')) := fun w' hb =>
  outputs_any lo lo2 a la ea iv sv ins S w' hva hsa ((hal.below hbA).below hb) ((hae.below hbA).below hb) ((hi.below hbA).below hb) ((hS.below hbA).below hb) ((g.below hbA).below hb)
 have HOB : Hid (∀ w', Below wA.heap.size wA w' → Calls Tryz.prog 85 #[.agg #[.int .i64 b.states, .int .i64 b.initial, lb, eb], iv, tv] w' (MadeTxI (outsL b ins T) w')) := fun w' hb =>
  outputs_any lo lo3 b lb eb iv tv ins T w' hvb hsb ((hbl.below hbA).below hb) ((hbe.below hbA).below hb) ((hi.below hbA).below hb) ((hT.below hbA).below hb) ((g.below hbA).below hb)
 have hlen : (outsL b ins T).length ≤ 12 := Nat.le_trans (outs_len b ins T) hvb.labels.most
 have HLEN : Hid ((outsL b ins T).length ≤ 1048576) := by unfold Hid; omega
 have hD : Below wA.heap.size wA wA.drew := (Below.refl _ _).drew
 have HD := Lib.hid hD
 have HSW : Hid (∀ w', Below wA.heap.size wA w' → w'.cell? ⟨tb, 0, none⟩ = some (.int .i64 a.states) ∧ w'.cell? ⟨tb, 1, none⟩ = some (.int .i64 a.initial) ∧ w'.cell? ⟨tb, 2, none⟩ = some la ∧ w'.cell? ⟨tb, 3, none⟩ = some ea
  ∧ w'.cell? ⟨tb + 1, 0, none⟩ = some (.int .i64 b.states) ∧ w'.cell? ⟨tb + 1, 1, none⟩ = some (.int .i64 b.initial) ∧ w'.cell? ⟨tb + 1, 2, none⟩ = some lb ∧ w'.cell? ⟨tb + 1, 3, none⟩ = some eb) := fun w' hb =>
  ⟨(hX.below hb).cell 0 rfl, (hX.below hb).cell 1 rfl, (hX.below hb).cell 2 rfl, (hX.below hb).cell 3 rfl, (hY.below hb).cell 0 rfl, (hY.below hb).cell 1 rfl, (hY.below hb).cell 2 rfl, (hY.below hb).cell 3 rfl⟩
 have HBA := Lib.hid hbA
 have HWA := Lib.hid hwA
 have HTB := Lib.hid htb
 clear hva hvb hsa hsb hal hae hbl hbe hi hS hT g hbA hX hY hwA htb hlen hD
 go_enter Tryz.func38, Tryz.ntmps38
 go_wp2
 rw [← HWA.out, ← HTB.out]
 go_region_held3 (fun w' => w'.cell? ⟨tb, 0, none⟩ = some (.int .i64 a.states) ∧ w'.cell? ⟨tb, 1, none⟩ = some (.int .i64 a.initial) ∧ w'.cell? ⟨tb, 2, none⟩ = some la ∧ w'.cell? ⟨tb, 3, none⟩ = some ea
  ∧ w'.cell? ⟨tb + 1, 0, none⟩ = some (.int .i64 b.states) ∧ w'.cell? ⟨tb + 1, 1, none⟩ = some (.int .i64 b.initial) ∧ w'.cell? ⟨tb + 1, 2, none⟩ = some lb ∧ w'.cell? ⟨tb + 1, 3, none⟩ = some eb)
  (first
   | exact HSW.out _ HD.out
   | exact HSW.out _ hq1
   | exact HSW.out _ hq2
   | exact HSW.out _ hq3
   | exact HSW.out _ (Below.refl _ _)
   | go_keep)
  (first
   | (go_at_call_of 85 (Value.agg #[Value.int .i64 b.states, Value.int .i64 b.initial, lb, eb]); refine Calls.mono (HOB.out _ HD.out) ?_; rintro e w1 ⟨v1, rfl, hb1, ho1⟩; have hq1 : Below wA.heap.size wA w1 := HD.out.trans (hb1.mono (by simp)))
   | (go_at_call_of 85 (Value.agg #[Value.int .i64 a.states, Value.int .i64 a.initial, la, ea]); refine Calls.mono (HOA.out _ hq1) ?_; rintro e w2 ⟨v2, rfl, hb2, ho2⟩; have hq2 : Below wA.heap.size wA w2 := hq1.trans (hb2.mono hq1.size))
   | (go_at_call 84; refine Calls.mono (lacking_any _ _ v1 v2 (outsL b ins T) (outsL a ins S) w2 (ho1.at.below hb2) ho2.at HLEN.out) ?_; rintro e w3 ⟨v3, rfl, hb3, ho3⟩; have hq3 : Below wA.heap.size wA w3 := hq2.trans (hb3.mono hq2.size))
   | fail)
 all_goals (
  have HQ := Lib.hid (HBA.out.trans (hq3.mono HBA.out.size))
  have HO3 := Lib.hid (OwnStrs.lower ho3 (Nat.le_trans HBA.out.size hq2.size))
  clear hb1 ho1 hq1 hb2 ho2 hq2 hb3 ho3 hq3
  go_wp2
  go_ret
  exact ⟨_, rfl, HQ.out, HO3.out⟩)

end Go.Proofs.YtaabkeejbhdenaaGreatDoor
