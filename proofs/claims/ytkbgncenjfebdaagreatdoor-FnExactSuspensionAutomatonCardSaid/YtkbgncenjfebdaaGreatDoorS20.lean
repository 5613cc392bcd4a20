/-
  The reference's l28Is.
  The reference's l28Auto and SuspensionAutomaton.
  The reference's SuspensionAutomaton.
  The library's slices.IndexFunc and slices.ContainsFunc at a slice of texts, with a function that may lay blocks of its own.
  The library's slices.IndexFunc and slices.ContainsFunc at a slice of numbers, with a function that may lay blocks of its own.
  The library's slices.DeleteFunc at a row of numbers of the call's own, with a function that may lay blocks of its own.
  The library's Index and Contains at a slice of texts.
  What the implementation's out computes: the edges from a state.
  The library's Clone at lists of texts.
-/
import Derived.Test.YtkbgncenjfebdaaGreatDoorS19
import Derived.Test.YtkbgncenjfebdaaGreatDoorS13
import Derived.Test.YtkbgncenjfebdaaGreatDoorS3
import Derived.Test.YtkbgncenjfebdaaGreatDoorS17
import Derived.Test.YtkbgncenjfebdaaGreatDoorProg
import Derived.Test.YtkbgncenjfebdaaGreatDoorS1
import Derived.Test.YtkbgncenjfebdaaGreatDoorS6
import Derived.Test.YtkbgncenjfebdaaGreatDoorS8
import Derived.Test.YtkbgncenjfebdaaGreatDoorS10
namespace Go.Proofs.YtkbgncenjfebdaaGreatDoor
open Go Go.RowKit

theorem name_ext (l : ByteArray) : (l.extract 0 (openAt l.data.toList)).toList = labName l := by
 unfold labName; rw [Lib.toList_data, extract_data']; simp
theorem deltaB_eq : deltaB = [100, 101, 108, 116, 97] := rfl
set_option maxRecDepth 100000 in
set_option maxHeartbeats 4000000 in
theorem l28Is_any (p lo : Nat) (t : Lts) (v : Value) (ins : List ByteArray) (w : World) (hsh : Short t.labels) (hp : LtsPtr lo w p t) (hi : SliceK 1 encS lo w v ins) : Calls Tryz.prog 45 #[.pointer (some ⟨p, 0, none⟩), v] w (Decides (IfOk t ins) w) := by
 have HVL := l11Is_any p lo t w hsh hp
 have HI := Lib.hid hi
 have HP := Lib.hid hp
 have HSH := Lib.hid hsh
 obtain ⟨a, cap, rfl, hn, hcap, hrow⟩ := hi
 by_cases hv : Valid t
 ·have HV := Lib.hid hv
  have HVA := Lib.hid (Decides.yes HVL hv)
  clear hv HVL
  by_cases hact : ∀ i (h : i < ins.length), isAction ins[i].data.toList = true
  ·have HACT := Lib.hid hact
   clear hact
   go_enter Tryz.func45, Tryz.ntmps45
   go_wp2_with fail
   refine Calls.mono HVA.out ?_
   rintro e w1 ⟨rfl, hb1⟩
   have HB1 := Lib.hid hb1
   have HC := Lib.hid (Decides.yes (l11Actions_any lo _ ins w1 (HI.out.below hb1)) HACT.out)
   clear hb1 HVA
   go_wp2_with fail
   refine Calls.mono HC.out ?_
   rintro e w2 ⟨rfl, hb2⟩
   have HB2 := Lib.hid (HB1.out.trans (hb2.mono HB1.out.size))
   have hrow1 := Lib.hid (hrow.below HB2.out)
   have HP2 := Lib.hid (HP.out.below HB2.out)
   clear hb2 hrow HC
   go_wp2
   go_loopw [5] (fun i wr => ∃ k : Nat, k ≤ ins.length ∧ i = .int .i64 k ∧ Below w2.heap.size w2 wr ∧ (∀ j (h : j < ins.length), j < k → (ins[j].toList == [100, 101, 108, 116, 97]) = false) ∧ (∀ j (h : j + 1 < ins.length), j + 1 < k → strLess ins[j] ins[j + 1] = true)) (fun i _ => ins.length - (intOf i).toNat)
   case atStart => exact ⟨0, Nat.zero_le _, rfl, Below.refl _ _, fun _ _ h => by omega, fun _ _ h => by omega⟩
   case round =>
    obtain ⟨k, hk, rfl, hbl, hx1, hx2⟩ := hrel
    have HX1 := Lib.hid hx1
    have HX2 := Lib.hid hx2
    have HBL := Lib.hid hbl
    have hsz := hbl.size
    clear hx1 hx2
    by_cases hlt : k < ins.length
    ·obtain ⟨b, o, rfl, -, hb, c⟩ := (hrow1.out.below hbl).one hlt
     simp only [encS, List.getElem?_cons_zero] at c
     have s1 := later_cell hb c
     obtain ⟨x, hx⟩ : ∃ x, x = ins[k] := ⟨_, rfl⟩
     rw [← hx] at s1
     have HX := Lib.hid hx
     cases hdl : (x.toList == [100, 101, 108, 116, 97])
     ·have HDL := Lib.hid hdl
      have HN1 : Hid (∀ j (h : j < ins.length), j < k + 1 → (ins[j].toList == [100, 101, 108, 116, 97]) = false) := fun j h h' => by
       by_cases e : j = k
       ·subst e; rw [← HX.out]; exact HDL.out
       ·exact HX1.out j h (by omega)
      rcases Nat.eq_zero_or_pos k with hk0 | hk0
      ·have hk1 : decide ((0 : Int) < (k : Int)) = false := by rw [decide_eq_false_iff_not]; omega
       have hk3 : ¬ (0 : Int) < (k : Int) := by omega
       have hk4 : ¬ 0 < k := by omega
       have HK : Hid (k = 0) := hk0
       clear hk0 c hbl hx
       go_wp2
       refine wp_region_later (by kernel_rfl) (by kernel_rfl) ?_
       repeat (go_big_quiet_step ((fail)))
       refine wpQuiet_nil ?_
       intro _ hw9
       obtain ⟨nl, hw8⟩ := hw9
       subst hw8
       go_wp2
       go_roundw
       case rel => exact ⟨k + 1, by omega, by go_num, HBL.out.trans (nl.h.mono hsz), HN1.out, fun j h h' => by have := HK.out; omega⟩
       case measure => simp [intOf]; omega
      ·obtain ⟨m, rfl⟩ : ∃ m, k = m + 1 := ⟨k - 1, by omega⟩
       clear hk0
       obtain ⟨_, _, e9, -, -, c2⟩ := (hrow1.out.below hbl).one (show m < ins.length by omega)
       simp only [Option.some.injEq, Addr.mk.injEq, and_true] at e9
       obtain ⟨rfl, rfl⟩ := e9
       simp only [encS, List.getElem?_cons_zero] at c2
       have s2 := later_cell hb c2
       obtain ⟨y, hy⟩ : ∃ y, y = ins[m] := ⟨_, rfl⟩
       rw [← hy] at s2
       have HY := Lib.hid hy
       have hk1 : decide ((0 : Int) < (m : Int) + 1) = true := by rw [decide_eq_true_eq]; omega
       have hk2 : (0 : Int) < (m : Int) + 1 := by omega
       clear c c2 hbl hx hy
       cases hD : Op.bytesLess y.toList x.toList
       ·have HD := Lib.hid hD
        go_wp2
        refine wp_region_later (by kernel_rfl) (by kernel_rfl) ?_
        repeat (go_big_quiet_step ((fail)))
        refine wpQuiet_nil ?_
        intro _ hw9
        obtain ⟨nl, hw8⟩ := hw9
        subst hw8
        go_wp2
        go_ret
        refine ⟨false, rfl, ⟨(fun h => by cases h), fun h => ?_⟩, HB2.out.trans ((HBL.out.trans (nl.h.mono hsz)).mono HB2.out.size)⟩
        have := h.rise m hlt
        unfold strLess at this
        rw [← HX.out, ← HY.out, HD.out] at this
        cases this
       ·have HD := Lib.hid hD
        go_wp2
        refine wp_region_later (by kernel_rfl) (by kernel_rfl) ?_
        repeat (go_big_quiet_step ((fail)))
        refine wpQuiet_nil ?_
        intro _ hw9
        obtain ⟨nl, hw8⟩ := hw9
        subst hw8
        go_wp2
        go_roundw
        case rel => exact ⟨m + 1 + 1, by omega, by go_num, HBL.out.trans (nl.h.mono hsz), HN1.out, fun j h h' => by
          by_cases e : j = m
          ·subst e; unfold strLess; rw [← HX.out, ← HY.out]; exact HD.out
          ·exact HX2.out j h (by omega)⟩
        case measure => simp [intOf]; omega
     ·have HDL := Lib.hid hdl
      clear c hbl hx
      go_wp2
      refine wp_region_later (by kernel_rfl) (by kernel_rfl) ?_
      repeat (go_big_quiet_step ((fail)))
      refine wpQuiet_nil ?_
      intro _ hw9
      obtain ⟨nl, hw8⟩ := hw9
      subst hw8
      go_wp2
      go_ret
      refine ⟨false, rfl, ⟨(fun h => by cases h), fun h => ?_⟩, HB2.out.trans ((HBL.out.trans (nl.h.mono hsz)).mono HB2.out.size)⟩
      refine absurd ?_ (h.nodelta x (by rw [HX.out]; exact List.getElem_mem hlt))
      rw [deltaB_eq]; exact eq_of_beq HDL.out
    ·have HN1 : Hid (∀ s ∈ ins, s.toList ≠ deltaB) := fun s hs e => by
      obtain ⟨j, hj, rfl⟩ := List.mem_iff_getElem.1 hs
      have := HX1.out j hj (by omega)
      rw [deltaB_eq] at e
      rw [e] at this
      simp at this
     have HN2 : Hid (∀ j (h : j + 1 < ins.length), strLess ins[j] ins[j + 1] = true) := fun j h => HX2.out j h (by omega)
     have HPR := Lib.hid (HP2.out.below hbl)
     have HBR := Lib.hid (HB2.out.trans (hbl.mono HB2.out.size))
     obtain ⟨wR, hwR⟩ : ∃ wR, wR = wr := ⟨_, rfl⟩
     rw [← hwR] at HPR HBR ⊢
     obtain ⟨lv, ev, hpl, -, -, q2, -, hl, -⟩ := id HPR.out
     obtain ⟨al, cl, rfl, hlc, hlc2, hlrow⟩ := hl
     have HLR := Lib.hid hlrow
     have HQ2 := Lib.hid q2
     clear hbl hwR hlrow HBL
     go_wp2
     go_loopw [6] (fun i wr => ∃ k : Nat, k ≤ t.labels.length ∧ i = .int .i64 k ∧ Below wR.heap.size wR wr ∧ (∀ j (h : j < t.labels.length), j < k → labName t.labels[j] ≠ deltaB)) (fun i _ => t.labels.length - (intOf i).toNat)
     case atStart => exact ⟨0, Nat.zero_le _, rfl, Below.refl _ _, fun _ _ h => by omega⟩
     case round =>
      obtain ⟨k, hk, rfl, hbl, hx1⟩ := hrel
      have HY1 := Lib.hid hx1
      have HBL := Lib.hid hbl
      have hsz := hbl.size
      have q2 := keeps hbl hpl HQ2.out
      clear hx1
      by_cases hlt2 : k < t.labels.length
      ·obtain ⟨b, o, rfl, -, hb, c⟩ := (HLR.out.below hbl).one hlt2
       simp only [encS, List.getElem?_cons_zero] at c
       have hnm0 := l01LabelName_any t.labels[k] wr (HSH.out k hlt2)
       have hex0 := name_ext t.labels[k]
       obtain ⟨nm, hnm⟩ : ∃ nm, nm = t.labels[k].extract 0 (openAt t.labels[k].data.toList) := ⟨_, rfl⟩
       rw [← hnm] at hnm0 hex0
       have HNM := Lib.hid hnm0
       have HEX := Lib.hid hex0
       obtain ⟨x, hx⟩ : ∃ x, x = t.labels[k] := ⟨_, rfl⟩
       rw [← hx] at c HNM HEX
       have HX := Lib.hid hx
       clear hbl hx hnm hnm0 hex0
       cases hdl : (nm.toList == [100, 101, 108, 116, 97])
       ·have HDL := Lib.hid hdl
        clear hdl
        have hdl := HDL.out
        go_wp2_with fail
        refine Calls.mono HNM.out ?_
        rintro e w3 ⟨rfl, rfl⟩
        go_wp2
        go_roundw
        case rel => exact ⟨k + 1, by omega, by go_num, HBL.out, fun j h h' => by
          by_cases e : j = k
          ·subst e
           intro he
           have h1 := HDL.out
           rw [HEX.out, HX.out, he, deltaB_eq] at h1
           simp at h1
          ·exact HY1.out j h (by omega)⟩
        case measure => simp [intOf]; omega
       ·have HDL := Lib.hid hdl
        go_wp2_with fail
        refine Calls.mono HNM.out ?_
        rintro e w3 ⟨rfl, rfl⟩
        go_wp2
        go_ret
        refine ⟨false, rfl, ⟨(fun h => by cases h), fun h => ?_⟩, HBR.out.trans (HBL.out.mono HBR.out.size)⟩
        refine absurd ?_ (h.names x (by rw [HX.out]; exact List.getElem_mem hlt2))
        rw [deltaB_eq, ← HEX.out]; exact eq_of_beq HDL.out
      ·have HNN : Hid (∀ l ∈ t.labels, labName l ≠ deltaB) := fun l hl => by
        obtain ⟨j, hj, rfl⟩ := List.mem_iff_getElem.1 hl
        exact HY1.out j hj (by omega)
       clear hbl
       go_wp2
       go_ret
       exact ⟨true, rfl, ⟨fun _ => ⟨HV.out, HACT.out, HN2.out, HN1.out, HNN.out⟩, fun _ => rfl⟩, HBR.out.trans (HBL.out.mono HBR.out.size)⟩
  ·have HACT := Lib.hid hact
   clear hact hrow
   go_enter Tryz.func45, Tryz.ntmps45
   go_wp2_with fail
   refine Calls.mono HVA.out ?_
   rintro e w1 ⟨rfl, hb1⟩
   have HB1 := Lib.hid hb1
   have HC := Lib.hid (Decides.no (l11Actions_any lo _ ins w1 (HI.out.below hb1)) HACT.out)
   clear hb1 HVA
   go_wp2_with fail
   refine Calls.mono HC.out ?_
   rintro e w2 ⟨rfl, hb2⟩
   have HB2 := Lib.hid (HB1.out.trans (hb2.mono HB1.out.size))
   clear hb2 HC
   go_wp2
   go_ret
   exact ⟨false, rfl, ⟨(fun h => by cases h), fun h => absurd h.acts HACT.out⟩, HB2.out⟩
 ·have HV := Lib.hid hv
  have HVA := Lib.hid (Decides.no HVL hv)
  clear hv HVL hrow
  go_enter Tryz.func45, Tryz.ntmps45
  go_wp2_with fail
  refine Calls.mono HVA.out ?_
  rintro e w1 ⟨rfl, hb1⟩
  have HB1 := Lib.hid hb1
  clear hb1 HVA
  go_wp2
  go_ret
  exact ⟨false, rfl, ⟨(fun h => by cases h), fun h => absurd h.valid HV.out⟩, HB1.out⟩

end Go.Proofs.YtkbgncenjfebdaaGreatDoor

namespace Go.Proofs.YtkbgncenjfebdaaGreatDoor
open Go Go.RowKit

def RetAu (t : Lts) (ins : List ByteArray) (w : World) (e : Ending) (w' : World) : Prop :=
 Below w.heap.size w w' ∧ (((¬ Valid (susT t ins) ∨ (Valid (susT t ins) ∧ DFull (susT t ins))) ∧ e = .returned (.tuple #[.agg #[.int .i64 0, .int .i64 0, .slice none 0 0, .slice none 0 0], .slice none 0 0, .bool false]))
  ∨ (Valid (susT t ins) ∧ ∃ (st : DNet) (lv vr ve : Value), DOk (susT t ins) st ∧ e = .returned (.tuple #[.agg #[.int .i64 st.rows.length, .int .i64 0, lv, ve], vr, .bool true]) ∧ DMem w.heap.size st vr ve w' ∧ w'.ownsRow w.heap.size 9 1 lv (susT t ins).labels.length ((susT t ins).labels.map .string)))
theorem au_results {w : World} {b : Nat} {v0 v1 v2 v3 : Value} {tmps : Array Value} (hc : tmps.getD 4 undef = .pointer (some ⟨b, 0, none⟩)) (hb : Blk w b [v0, v1, v2, v3] 30) :
  (results Tryz.f46 tmps).run Tryz.prog w = .ok (.tuple #[.agg #[v0, v1, v2, v3], tmps.getD 5 undef, tmps.getD 6 undef]) w := by
 have h0 := hb.cell 0 rfl
 have h1 := hb.cell 1 rfl
 have h2 := hb.cell 2 rfl
 have h3 := hb.cell 3 rfl
 simp only [Array.getD_eq_getD_getElem?] at hc
 simp [results, Tryz.results46, go_sem, hc, h0, h1, h2, h3, Result.andThen]
theorem ssa_results {w : World} {b : Nat} {v0 v1 v2 v3 : Value} {tmps : Array Value} (hc : tmps.getD 4 undef = .pointer (some ⟨b, 0, none⟩)) (hb : Blk w b [v0, v1, v2, v3] 30) :
  (results Tryz.f11 tmps).run Tryz.prog w = .ok (.tuple #[.agg #[v0, v1, v2, v3], tmps.getD 5 undef, tmps.getD 6 undef]) w := by
 have h0 := hb.cell 0 rfl
 have h1 := hb.cell 1 rfl
 have h2 := hb.cell 2 rfl
 have h3 := hb.cell 3 rfl
 simp only [Array.getD_eq_getD_getElem?] at hc
 simp [results, Tryz.results11, go_sem, hc, h0, h1, h2, h3, Result.andThen]

set_option maxRecDepth 100000 in
set_option maxHeartbeats 4000000 in
theorem l28Auto_any (p lo : Nat) (t : Lts) (v : Value) (ins : List ByteArray) (w : World) (h : IfOk t ins) (hsh : Short t.labels) (hp : LtsPtr lo w p t) (hi : SliceK 1 encS lo w v ins) : Calls Tryz.prog 46 #[.pointer (some ⟨p, 0, none⟩), v] w (RetAu t ins w) := by
 obtain ⟨tb, htb⟩ : ∃ tb, tb = w.heap.size := ⟨_, rfl⟩
 obtain ⟨wA, hwA⟩ : ∃ wA, wA = w.alloc (.cells #[.int .i64 0, .int .i64 0, .slice none 0 0, .slice none 0 0] 30) := ⟨_, rfl⟩
 have hbA : Below w.heap.size w wA := by rw [hwA]; exact (Below.refl _ _).alloc (Nat.le_refl _) _
 have hR : Blk wA tb [.int .i64 0, .int .i64 0, .slice none 0 0, .slice none 0 0] 30 := by rw [hwA, htb]; exact Blk.new w _ _
 have HSP := Lib.hid (l28Suspend_any p lo t v ins wA h hsh (hp.below hbA) (hi.below hbA))
 have HBA := Lib.hid hbA
 have HR := Lib.hid hR
 have HWA := Lib.hid hwA
 have HTB := Lib.hid htb
 have hsW : w.heap.size ≤ wA.heap.size := hbA.size
 have hle : w.heap.size ≤ tb := by rw [htb]; omega
 clear h hsh hp hi hbA hR hwA htb
 go_enter Tryz.func46, Tryz.ntmps46
 go_wp2_with fail
 rw [← HWA.out]
 refine Calls.mono HSP.out ?_
 rintro e w1 ⟨hb1, b, lv1, ev1, rfl, hbv, hol⟩
 obtain ⟨la, lc, rfl, -, -⟩ := owns_slice hol.1
 obtain ⟨ea, ec, rfl, -, -⟩ := owns_slice hol.2
 have hol2 := hol
 obtain ⟨LN, hLN⟩ : ∃ LN, LN = (susT t ins).labels.length := ⟨_, rfl⟩
 obtain ⟨EN, hEN⟩ : ∃ EN, EN = (susT t ins).edges.length := ⟨_, rfl⟩
 rw [← hLN, ← hEN] at hol2
 rw [← hLN, ← hEN]
 obtain ⟨W3, hW3⟩ : ∃ W3, W3 = w1.alloc (.cells #[.int .i64 t.states, .int .i64 t.initial, .slice la LN lc, .slice ea EN ec] 30) := ⟨_, rfl⟩
 obtain ⟨b3, hb3e⟩ : ∃ b3, b3 = w1.heap.size := ⟨_, rfl⟩
 have hb4 : Below w1.heap.size w1 W3 := by rw [hW3]; exact (Below.refl _ _).alloc (Nat.le_refl _) _
 have hX : Blk W3 b3 [.int .i64 t.states, .int .i64 t.initial, .slice la LN lc, .slice ea EN ec] 30 := by rw [hW3, hb3e]; exact Blk.new _ _ _
 have hLP : LtsPtr wA.heap.size W3 b3 (susT t ins) := ⟨_, _, hX.lt, hX.cell 0 rfl, hX.cell 1 rfl, hX.cell 2 rfl, hX.cell 3 rfl, by rw [hLN]; exact (SliceK.of_owns (enc := encS) (e := 9) encS_len rfl (by rw [flat_encS]; exact hol.1)).below hb4, by rw [hEN]; exact (SliceK.of_owns (enc := encE) (e := 93) encE_len rfl hol.2).below hb4⟩
 have HB4 := Lib.hid (hb1.trans (hb4.mono hb1.size))
 have HR4 := Lib.hid (HR.out.below HB4.out)
 have HW3 := Lib.hid hW3
 have HB3 := Lib.hid hb3e
 have HBV := Lib.hid hbv
 have HLP := Lib.hid hLP
 have r0 := HR4.out.cell 0 rfl
 have r1 := HR4.out.cell 1 rfl
 have r2 := HR4.out.cell 2 rfl
 have r3 := HR4.out.cell 3 rfl
 have s0 := HR4.out.frozen 0
 have s1 := HR4.out.frozen 1
 have s2 := HR4.out.frozen 2
 have s3 := HR4.out.frozen 3
 rw [hW3] at r0 r1 r2 r3 s0 s1 s2 s3
 cases b
 ·have HNV : Hid (¬ Valid (susT t ins)) := fun hv => by have := HBV.out.2 hv; cases this
  clear hb1 hbv hol hol2 hLN hEN hW3 hb3e hb4 hX hLP HSP
  rw [← HTB.out]
  go_wp2
  rw [← HW3.out]
  refine bodyPost_ret (au_results rfl ((((HR4.out.set 0 _).set 1 _).set 2 _).set 3 _)) rfl ?_
  exact ⟨((((HBA.out.trans (HB4.out.mono hsW)).setCell hle _).setCell hle _).setCell hle _).setCell hle _, .inl ⟨.inl HNV.out, rfl⟩⟩
 ·have HV : Hid (Valid (susT t ins)) := HBV.out.1 rfl
  have HL := Lib.hid (l12Sets_any b3 wA.heap.size (susT t ins) W3 HV.out HLP.out)
  clear hb1 hbv hol hol2 hLN hEN hW3 hb3e hb4 hX hLP HSP
  rw [← HTB.out]
  go_wp2_with fail
  rw [← HW3.out, ← HB3.out]
  refine Calls.mono HL.out ?_
  clear r0 r1 r2 r3 s0 s1 s2 s3
  rintro e w5 ⟨hb5, ⟨hfull, rfl⟩ | ⟨st, lvS, vr, evS, hok, rfl, hmem, hol⟩⟩
  ·have HF := Lib.hid hfull
   have HB5 := Lib.hid (HB4.out.trans (hb5.mono HB4.out.size))
   have HR5 := Lib.hid (HR.out.below HB5.out)
   have r0 := HR5.out.cell 0 rfl
   have r1 := HR5.out.cell 1 rfl
   have r2 := HR5.out.cell 2 rfl
   have r3 := HR5.out.cell 3 rfl
   have s0 := HR5.out.frozen 0
   have s1 := HR5.out.frozen 1
   have s2 := HR5.out.frozen 2
   have s3 := HR5.out.frozen 3
   clear hfull hb5 HL
   go_wp2
   refine bodyPost_ret (au_results rfl ((((HR5.out.set 0 _).set 1 _).set 2 _).set 3 _)) rfl ?_
   exact ⟨((((HBA.out.trans (HB5.out.mono hsW)).setCell hle _).setCell hle _).setCell hle _).setCell hle _, .inl ⟨.inr ⟨HV.out, HF.out⟩, rfl⟩⟩
  ·obtain ⟨la5, lc5, rfl, -, -⟩ := owns_slice hol
   obtain ⟨ea5, ec5, rfl, -, -⟩ := owns_slice hmem.2
   obtain ⟨⟨vs, hiv⟩, hme⟩ := hmem
   obtain ⟨R, hRR⟩ : ∃ R, R = st.rows.length := ⟨_, rfl⟩
   obtain ⟨L5, hL5⟩ : ∃ L5, L5 = (susT t ins).labels.length := ⟨_, rfl⟩
   obtain ⟨E5, hE5⟩ : ∃ E5, E5 = st.edges.length := ⟨_, rfl⟩
   have hss : w.heap.size ≤ W3.heap.size := Nat.le_trans hsW HB4.out.size
   have HME := Lib.hid (own_lower hme hss)
   have HML := Lib.hid (own_lower hol hss)
   have HIV := Lib.hid (hiv.lower hss)
   rw [← hL5] at HML
   rw [← hE5] at HME
   rw [← hRR, ← hL5, ← hE5]
   have HOK := Lib.hid hok
   have HRR := Lib.hid hRR
   have HL5 := Lib.hid hL5
   have HE5 := Lib.hid hE5
   have HB5 := Lib.hid (HB4.out.trans (hb5.mono HB4.out.size))
   have HR5 := Lib.hid (HR.out.below HB5.out)
   have r0 := HR5.out.cell 0 rfl
   have r1 := HR5.out.cell 1 rfl
   have r2 := HR5.out.cell 2 rfl
   have r3 := HR5.out.cell 3 rfl
   have s0 := HR5.out.frozen 0
   have s1 := HR5.out.frozen 1
   have s2 := HR5.out.frozen 2
   have s3 := HR5.out.frozen 3
   clear hok hb5 hme hiv hol hRR hL5 hE5 HL
   go_wp2
   refine bodyPost_ret (au_results rfl ((((HR5.out.set 0 _).set 1 _).set 2 _).set 3 _)) rfl ?_
   refine ⟨((((HBA.out.trans (HB5.out.mono hsW)).setCell hle _).setCell hle _).setCell hle _).setCell hle _, .inr ⟨HV.out, st, .slice la5 L5 lc5, vr, .slice ea5 E5 ec5, HOK.out, by rw [HRR.out]; rfl, ⟨⟨vs, ?_⟩, ?_⟩, ?_⟩⟩
   ·exact (((HIV.out.set1 HR5.out (by decide) (by decide) 0 _).set1 (HR5.out.set 0 _) (by decide) (by decide) 1 _).set1 ((HR5.out.set 0 _).set 1 _) (by decide) (by decide) 2 _).set1 (((HR5.out.set 0 _).set 1 _).set 2 _) (by decide) (by decide) 3 _
   ·rw [← HE5.out]; exact own4 HR5.out HME.out (by decide)
   ·rw [← HL5.out]; exact own4 HR5.out HML.out (by decide)

end Go.Proofs.YtkbgncenjfebdaaGreatDoor

namespace Go.Proofs.YtkbgncenjfebdaaGreatDoor
open Go Go.RowKit

set_option maxRecDepth 100000 in
set_option maxHeartbeats 4000000 in
theorem specSuspensionAutomaton_any (lo : Nat) (t : Lts) (lv ev v : Value) (ins : List ByteArray) (w : World) (hsh : Short t.labels) (hl : SliceK 1 encS lo w lv t.labels) (he : SliceK 3 encE lo w ev t.edges) (hi : SliceK 1 encS lo w v ins) :
  Calls Tryz.prog 11 #[.agg #[.int .i64 t.states, .int .i64 t.initial, lv, ev], v] w (RetSa t ins w) := by
 obtain ⟨tb, htb⟩ : ∃ tb, tb = w.heap.size := ⟨_, rfl⟩
 obtain ⟨wA, hwA⟩ : ∃ wA, wA = (w.alloc (.cells #[.int .i64 t.states, .int .i64 t.initial, lv, ev] 30)).alloc (.cells #[.int .i64 0, .int .i64 0, .slice none 0 0, .slice none 0 0] 30) := ⟨_, rfl⟩
 have hbA : Below w.heap.size w wA := by rw [hwA]; exact ((Below.refl _ _).alloc (Nat.le_refl _) _).alloc (by simp) _
 have hT : Blk wA tb [.int .i64 t.states, .int .i64 t.initial, lv, ev] 30 := by rw [hwA, htb]; exact (Blk.new w _ _).alloc _
 have hR : Blk wA (tb + 1) [.int .i64 0, .int .i64 0, .slice none 0 0, .slice none 0 0] 30 := by
  have := Blk.new (w.alloc (.cells #[.int .i64 t.states, .int .i64 t.initial, lv, ev] 30)) [.int .i64 0, .int .i64 0, .slice none 0 0, .slice none 0 0] 30
  rw [World.size_alloc, ← htb] at this
  rw [hwA]
  exact this
 have hP : LtsPtr lo wA tb t := ⟨_, _, hT.lt, hT.cell 0 rfl, hT.cell 1 rfl, hT.cell 2 rfl, hT.cell 3 rfl, hl.below hbA, he.below hbA⟩
 have HVI := l28Is_any tb lo t v ins wA hsh hP (hi.below hbA)
 have HSH := Lib.hid hsh
 have HP := Lib.hid hP
 have HI := Lib.hid (hi.below hbA)
 have HBA := Lib.hid hbA
 have HR := Lib.hid hR
 have HWA := Lib.hid hwA
 have HTB := Lib.hid htb
 have hsW : w.heap.size ≤ wA.heap.size := hbA.size
 have hle : w.heap.size ≤ tb + 1 := by rw [htb]; omega
 clear hsh hl he hi hwA hbA hT hR htb hP
 by_cases hif : IfOk t ins
 ·have HIF := Lib.hid hif
  have HVA := Lib.hid (Decides.yes HVI hif)
  clear hif HVI
  go_enter Tryz.func11, Tryz.ntmps11
  go_wp2_with fail
  rw [← HWA.out, ← HTB.out]
  refine Calls.mono HVA.out ?_
  rintro e w1 ⟨rfl, hb1⟩
  have HB1 := Lib.hid hb1
  have HAU := Lib.hid (l28Auto_any tb lo t v ins w1 HIF.out HSH.out (HP.out.below hb1) (HI.out.below hb1))
  clear hb1 HVA
  go_wp2_with fail
  refine Calls.mono HAU.out ?_
  rintro e w2 ⟨hb2, ⟨hno, rfl⟩ | ⟨hv, st, lvS, vr, evS, hok, rfl, hmem, hol⟩⟩
  ·obtain ⟨W3, hW3⟩ : ∃ W3, W3 = w2.alloc (.cells #[.int .i64 0, .int .i64 0, .slice none 0 0, .slice none 0 0] 30) := ⟨_, rfl⟩
   have hb4 : Below w2.heap.size w2 W3 := by rw [hW3]; exact (Below.refl _ _).alloc (Nat.le_refl _) _
   have HNO := Lib.hid hno
   have HB4 := Lib.hid (HB1.out.trans ((hb2.trans (hb4.mono hb2.size)).mono HB1.out.size))
   have HR4 := Lib.hid (HR.out.below HB4.out)
   have HW3 := Lib.hid hW3
   have r0 := HR4.out.cell 0 rfl
   have r1 := HR4.out.cell 1 rfl
   have r2 := HR4.out.cell 2 rfl
   have r3 := HR4.out.cell 3 rfl
   have s0 := HR4.out.frozen 0
   have s1 := HR4.out.frozen 1
   have s2 := HR4.out.frozen 2
   have s3 := HR4.out.frozen 3
   rw [hW3] at r0 r1 r2 r3 s0 s1 s2 s3
   clear hno hb2 hb4 hW3 HAU
   go_wp2
   rw [← HW3.out]
   refine bodyPost_ret (ssa_results rfl ((((HR4.out.set 0 _).set 1 _).set 2 _).set 3 _)) rfl ?_
   refine sa_none (((((HBA.out.trans (HB4.out.mono hsW)).setCell hle _).setCell hle _).setCell hle _).setCell hle _) ?_
   rcases HNO.out with h | ⟨h1, h2⟩
   ·exact .inr (.inl ⟨HIF.out, h, rfl, rfl, rfl⟩)
   ·exact .inr (.inr ⟨HIF.out, h1, .inr (.inl ⟨h1, h2, rfl, rfl, rfl⟩)⟩)
  ·obtain ⟨la, lc, rfl, -, -⟩ := owns_slice hol
   obtain ⟨ea, ec, rfl, -, -⟩ := owns_slice hmem.2
   obtain ⟨⟨vs, hiv⟩, hme⟩ := hmem
   obtain ⟨R, hRR⟩ : ∃ R, R = st.rows.length := ⟨_, rfl⟩
   obtain ⟨LN, hLN⟩ : ∃ LN, LN = (susT t ins).labels.length := ⟨_, rfl⟩
   obtain ⟨EN, hEN⟩ : ∃ EN, EN = st.edges.length := ⟨_, rfl⟩
   have hss := Nat.le_trans hsW HB1.out.size
   have HME := Lib.hid hme
   have HML := Lib.hid hol
   rw [← hLN] at HML
   rw [← hEN] at HME
   rw [← hRR, ← hLN, ← hEN]
   obtain ⟨W3, hW3⟩ : ∃ W3, W3 = w2.alloc (.cells #[.int .i64 R, .int .i64 0, .slice la LN lc, .slice ea EN ec] 30) := ⟨_, rfl⟩
   have hb4 : Below w2.heap.size w2 W3 := by rw [hW3]; exact (Below.refl _ _).alloc (Nat.le_refl _) _
   have hX : Blk W3 w2.heap.size [.int .i64 R, .int .i64 0, .slice la LN lc, .slice ea EN ec] 30 := by rw [hW3]; exact Blk.new _ _ _
   have HV := Lib.hid hv
   have HOK := Lib.hid hok
   have HB4 := Lib.hid (HB1.out.trans ((hb2.trans (hb4.mono hb2.size)).mono HB1.out.size))
   have HR4 := Lib.hid (HR.out.below HB4.out)
   have HW3 := Lib.hid hW3
   have HRR := Lib.hid hRR
   have HLN := Lib.hid hLN
   have HEN := Lib.hid hEN
   have HME4 := Lib.hid (own_lower (owns_below HME.out hb4) hss)
   have HML4 := Lib.hid (own_lower (owns_below HML.out hb4) hss)
   have HIV4 := Lib.hid ((hiv.below hb4).lower hss)
   have x0 := hX.cell 0 rfl
   have x1 := hX.cell 1 rfl
   have x2 := hX.cell 2 rfl
   have x3 := hX.cell 3 rfl
   have r0 := HR4.out.cell 0 rfl
   have r1 := HR4.out.cell 1 rfl
   have r2 := HR4.out.cell 2 rfl
   have r3 := HR4.out.cell 3 rfl
   have s0 := HR4.out.frozen 0
   have s1 := HR4.out.frozen 1
   have s2 := HR4.out.frozen 2
   have s3 := HR4.out.frozen 3
   rw [hW3] at r0 r1 r2 r3 s0 s1 s2 s3 x0 x1 x2 x3
   clear hok hb2 hb4 hW3 hme hiv hol hRR hLN hEN HME HML hX hv HAU
   go_wp2
   rw [← HW3.out]
   refine bodyPost_ret (ssa_results rfl ((((HR4.out.set 0 _).set 1 _).set 2 _).set 3 _)) rfl ?_
   refine ⟨((((HBA.out.trans (HB4.out.mono hsW)).setCell hle _).setCell hle _).setCell hle _).setCell hle _, dSys (susT t ins) st, st.rows, 0, .slice la LN lc, .slice ea EN ec, vr, vs, by rw [HRR.out]; rfl, .inr (.inr ⟨HIF.out, HV.out, .inr (.inr ⟨HV.out, st, HOK.out, rfl, rfl, rfl⟩)⟩), ⟨?_, ?_⟩, ?_⟩
   ·show World.ownsRow _ _ _ _ _ (susT t ins).labels.length _
    rw [← HLN.out]; exact own4 HR4.out HML4.out (by decide)
   ·show World.ownsRow _ _ _ _ _ st.edges.length _
    rw [← HEN.out]; exact own4 HR4.out HME4.out (by decide)
   ·exact (((HIV4.out.set1 HR4.out (by decide) (by decide) 0 _).set1 (HR4.out.set 0 _) (by decide) (by decide) 1 _).set1 ((HR4.out.set 0 _).set 1 _) (by decide) (by decide) 2 _).set1 (((HR4.out.set 0 _).set 1 _).set 2 _) (by decide) (by decide) 3 _
 ·have HIF := Lib.hid hif
  have HVA := Lib.hid (Decides.no HVI hif)
  clear hif HVI
  go_enter Tryz.func11, Tryz.ntmps11
  go_wp2_with fail
  rw [← HWA.out, ← HTB.out]
  refine Calls.mono HVA.out ?_
  rintro e w1 ⟨rfl, hb1⟩
  have HB1 := Lib.hid hb1
  have HR1 := Lib.hid (HR.out.below hb1)
  have r0 := HR1.out.cell 0 rfl
  have r1 := HR1.out.cell 1 rfl
  have r2 := HR1.out.cell 2 rfl
  have r3 := HR1.out.cell 3 rfl
  have s0 := HR1.out.frozen 0
  have s1 := HR1.out.frozen 1
  have s2 := HR1.out.frozen 2
  have s3 := HR1.out.frozen 3
  clear hb1 HVA
  go_wp2
  refine bodyPost_ret (ssa_results rfl ((((HR1.out.set 0 _).set 1 _).set 2 _).set 3 _)) rfl ?_
  exact sa_none (((((HBA.out.trans (HB1.out.mono hsW)).setCell hle _).setCell hle _).setCell hle _).setCell hle _) (.inl ⟨HIF.out, rfl, rfl, rfl⟩)

end Go.Proofs.YtkbgncenjfebdaaGreatDoor

namespace Go.Proofs.YtkbgncenjfebdaaGreatDoor
open Go Go.RowKit

def idxS (P : ByteArray → Bool) (xs : List ByteArray) : Int := if xs.findIdx P < xs.length then (xs.findIdx P : Nat) else -1
theorem idxS_neg {P : ByteArray → Bool} {xs : List ByteArray} : idxS P xs = -1 ↔ ∀ x ∈ xs, P x = false := by
 unfold idxS
 by_cases h : xs.findIdx P < xs.length
 ·rw [if_pos h]
  refine ⟨fun e => by omega, fun h2 => ?_⟩
  obtain ⟨x, hx, hp⟩ := List.findIdx_lt_length.1 h
  rw [h2 x hx] at hp
  cases hp
 ·rw [if_neg h]
  refine ⟨fun _ x hx => ?_, fun _ => rfl⟩
  cases hp : P x
  ·rfl
  ·exact absurd (List.findIdx_lt_length.2 ⟨x, hx, hp⟩) h
theorem idxS_any {P : ByteArray → Bool} {xs : List ByteArray} : decide (0 ≤ idxS P xs) = xs.any P := by
 unfold idxS
 by_cases h : xs.findIdx P < xs.length
 ·rw [if_pos h]
  obtain ⟨x, hx, hp⟩ := List.findIdx_lt_length.1 h
  rw [List.any_eq_true.2 ⟨x, hx, hp⟩]
  simp
 ·rw [if_neg h]
  have : xs.any P = false := by
   rw [List.any_eq_false]
   intro x hx hp
   exact h (List.findIdx_lt_length.2 ⟨x, hx, hp⟩)
  rw [this]
  rfl
/-- A function of one element that answers P, and turns nothing that was there. -/
def AskS (fid : Nat) (caps : Array Value) (P : ByteArray → Bool) (xs : List ByteArray) (B : Nat) (w : World) : Prop :=
 ∀ w', Below B w w' → ∀ x ∈ xs, Calls Tryz.prog fid (#[.string x] ++ caps) w' fun e w'' => e = .returned (.bool (P x)) ∧ Below w'.heap.size w' w''

set_option maxRecDepth 100000 in
set_option maxHeartbeats 1000000 in
theorem IndexFuncS (lo : Nat) (v : Value) (xs : List ByteArray) (fid : Nat) (caps : Array Value) (P : ByteArray → Bool) (w : World) (hv : SliceK 1 encS lo w v xs) (eg : ∀ args w, (callFunc fid args).run Tryz.prog w = .ok (.enter fid args) w) (hP : AskS fid caps P xs w.heap.size w) :
  Calls Tryz.prog 155 #[v, .func (.func fid) #[] caps] w fun e w' => e = .returned (.int .i64 (idxS P xs)) ∧ Below w.heap.size w w' := by
 obtain ⟨a, c, rfl, hcn, hcc, hrow⟩ := hv
 have HR := Lib.hid hrow
 have HP := Lib.hid hP
 clear hP hrow
 go_enter Tryz.func155, Tryz.ntmps155
 go_wp2_with fail
 go_loopw [8] (fun i wr => ∃ k : Nat, k ≤ xs.length ∧ i = .int .i64 k ∧ Below w.heap.size w wr ∧ ∀ j (h : j < xs.length), j < k → P xs[j] = false) (fun i _ => xs.length - (intOf i).toNat)
 case atStart => exact ⟨0, Nat.zero_le _, rfl, Below.refl _ _, fun _ _ h => by omega⟩
 case round =>
  obtain ⟨k, hk, rfl, hbl, ha⟩ := hrel
  have HA := Lib.hid ha
  have HBL := Lib.hid hbl
  clear ha
  by_cases hlt : k < xs.length
  ·obtain ⟨b1, o1, rfl, -, hbs, c1⟩ := (HR.out.below hbl).one hlt
   simp only [encS, List.getElem?_cons_zero] at c1
   clear hbl
   obtain ⟨x, hx⟩ : ∃ x, x = xs[k] := ⟨_, rfl⟩
   rw [← hx] at c1
   have HX := Lib.hid hx
   have HC := Lib.hid (HP.out wr HBL.out x (by rw [hx]; exact List.getElem_mem _))
   obtain ⟨b, hb⟩ : ∃ b, b = P x := ⟨_, rfl⟩
   rw [← hb] at HC
   have HB := Lib.hid hb
   clear hb hx
   go_wp2_with fail
   refine Calls.mono HC.out ?_
   rintro e w1 ⟨rfl, hb1⟩
   have HB1 := Lib.hid (HBL.out.trans (hb1.mono HBL.out.size))
   clear hb1 c1
   cases b
   ·go_wp2_with fail
    go_roundw
    case rel => exact ⟨k + 1, by omega, by go_num, HB1.out, fun j h hj => by
     by_cases e : j = k
     ·subst e; rw [← HX.out]; exact HB.out.symm
     ·exact HA.out j h (by omega)⟩
    case measure => simp [intOf]; omega
   ·have HI : Hid (idxS P xs = (k : Int)) := by
     unfold Hid idxS
     have h1 : xs.findIdx P = k := by
      rw [List.findIdx_eq hlt]
      exact ⟨by rw [← HX.out]; exact HB.out.symm, fun j hj => HA.out j (by omega) hj⟩
     rw [h1, if_pos hlt]
    go_wp2_with fail
    go_ret
    exact ⟨ret_int HI.out.symm, HB1.out⟩
  ·clear hbl
   have HI : Hid (idxS P xs = -1) := by
    unfold Hid
    rw [idxS_neg]
    intro x hx
    obtain ⟨j, hj, rfl⟩ := List.mem_iff_getElem.1 hx
    exact HA.out j hj (by omega)
   go_wp2_with fail
   go_ret
   exact ⟨ret_int HI.out.symm, HBL.out⟩

end Go.Proofs.YtkbgncenjfebdaaGreatDoor

namespace Go.Proofs.YtkbgncenjfebdaaGreatDoor
open Go Go.RowKit

def idxI (P : Int → Bool) (xs : List Int) : Int := if xs.findIdx P < xs.length then (xs.findIdx P : Nat) else -1
theorem idxI_neg {P : Int → Bool} {xs : List Int} : idxI P xs = -1 ↔ ∀ x ∈ xs, P x = false := by
 unfold idxI
 by_cases h : xs.findIdx P < xs.length
 ·rw [if_pos h]
  refine ⟨fun e => by omega, fun h2 => ?_⟩
  obtain ⟨x, hx, hp⟩ := List.findIdx_lt_length.1 h
  rw [h2 x hx] at hp
  cases hp
 ·rw [if_neg h]
  refine ⟨fun _ x hx => ?_, fun _ => rfl⟩
  cases hp : P x
  ·rfl
  ·exact absurd (List.findIdx_lt_length.2 ⟨x, hx, hp⟩) h
/-- A function of one element that answers P, and turns nothing that was there. -/
def AskI (fid : Nat) (caps : Array Value) (P : Int → Bool) (xs : List Int) (B : Nat) (w : World) : Prop :=
 ∀ w', Below B w w' → ∀ x ∈ xs, Calls Tryz.prog fid (#[.int .i64 x] ++ caps) w' fun e w'' => e = .returned (.bool (P x)) ∧ Below w'.heap.size w' w''

set_option maxRecDepth 100000 in
set_option maxHeartbeats 1000000 in
theorem IndexFuncI (lo : Nat) (v : Value) (xs : List Int) (fid : Nat) (caps : Array Value) (P : Int → Bool) (w : World) (hv : SliceK 1 encI lo w v xs) (eg : ∀ args w, (callFunc fid args).run Tryz.prog w = .ok (.enter fid args) w) (hP : AskI fid caps P xs w.heap.size w) :
  Calls Tryz.prog 172 #[v, .func (.func fid) #[] caps] w fun e w' => e = .returned (.int .i64 (idxI P xs)) ∧ Below w.heap.size w w' := by
 obtain ⟨a, c, rfl, hcn, hcc, hrow⟩ := hv
 have HR := Lib.hid hrow
 have HP := Lib.hid hP
 clear hP hrow
 go_enter Tryz.func172, Tryz.ntmps172
 go_wp2_with fail
 go_loopw [8] (fun i wr => ∃ k : Nat, k ≤ xs.length ∧ i = .int .i64 k ∧ Below w.heap.size w wr ∧ ∀ j (h : j < xs.length), j < k → P xs[j] = false) (fun i _ => xs.length - (intOf i).toNat)
 case atStart => exact ⟨0, Nat.zero_le _, rfl, Below.refl _ _, fun _ _ h => by omega⟩
 case round =>
  obtain ⟨k, hk, rfl, hbl, ha⟩ := hrel
  have HA := Lib.hid ha
  have HBL := Lib.hid hbl
  clear ha
  by_cases hlt : k < xs.length
  ·obtain ⟨b1, o1, rfl, -, hbs, c1⟩ := (HR.out.below hbl).one hlt
   simp only [encI, List.getElem?_cons_zero] at c1
   clear hbl
   obtain ⟨x, hx⟩ : ∃ x, x = xs[k] := ⟨_, rfl⟩
   rw [← hx] at c1
   have HX := Lib.hid hx
   have HC := Lib.hid (HP.out wr HBL.out x (by rw [hx]; exact List.getElem_mem _))
   obtain ⟨b, hb⟩ : ∃ b, b = P x := ⟨_, rfl⟩
   rw [← hb] at HC
   have HB := Lib.hid hb
   clear hb hx
   go_wp2_with fail
   refine Calls.mono HC.out ?_
   rintro e w1 ⟨rfl, hb1⟩
   have HB1 := Lib.hid (HBL.out.trans (hb1.mono HBL.out.size))
   clear hb1 c1
   cases b
   ·go_wp2_with fail
    go_roundw
    case rel => exact ⟨k + 1, by omega, by go_num, HB1.out, fun j h hj => by
     by_cases e : j = k
     ·subst e; rw [← HX.out]; exact HB.out.symm
     ·exact HA.out j h (by omega)⟩
    case measure => simp [intOf]; omega
   ·have HI : Hid (idxI P xs = (k : Int)) := by
     unfold Hid idxI
     have h1 : xs.findIdx P = k := by
      rw [List.findIdx_eq hlt]
      exact ⟨by rw [← HX.out]; exact HB.out.symm, fun j hj => HA.out j (by omega) hj⟩
     rw [h1, if_pos hlt]
    go_wp2_with fail
    go_ret
    exact ⟨ret_int HI.out.symm, HB1.out⟩
  ·clear hbl
   have HI : Hid (idxI P xs = -1) := by
    unfold Hid
    rw [idxI_neg]
    intro x hx
    obtain ⟨j, hj, rfl⟩ := List.mem_iff_getElem.1 hx
    exact HA.out j hj (by omega)
   go_wp2_with fail
   go_ret
   exact ⟨ret_int HI.out.symm, HBL.out⟩

end Go.Proofs.YtkbgncenjfebdaaGreatDoor

namespace Go.Proofs.YtkbgncenjfebdaaGreatDoor
open Go Go.RowKit

set_option maxRecDepth 100000 in
set_option maxHeartbeats 2000000 in
theorem DeleteFuncI (B : Nat) (v : Value) (xs : List Int) (fid : Nat) (caps : Array Value) (P : Int → Bool) (w0 w : World) (ho : w.ownsRow B 2 1 v xs.length (xs.map (Value.int .i64))) (hb : Below B w0 w) (hB : B ≤ w.heap.size)
  (eg : ∀ args w, (callFunc fid args).run Tryz.prog w = .ok (.enter fid args) w) (hP : AskI fid caps P xs B w0) :
  Calls Tryz.prog 124 #[v, .func (.func fid) #[] caps] w fun e w' => ∃ v', e = .returned v' ∧ Below B w0 w' ∧ w'.ownsRow B 2 1 v' (xs.filter fun x => !P x).length ((xs.filter fun x => !P x).map (Value.int .i64)) := by
 have HP := Lib.hid hP
 have HB := Lib.hid hb
 have HO := Lib.hid ho
 have HIX := Lib.hid (IndexFuncI B v xs fid caps P w (SliceK.of_owns (e := 2) encI_len rfl (by rw [flat_encI]; exact ho)) eg fun w' hb' x hx => hP w' (hb.trans (hb'.mono hB)) x hx)
 have HHB := Lib.hid hB
 obtain ⟨a, c, rfl, hnc, hcc⟩ := owns_slice ho
 obtain ⟨r, hr⟩ : ∃ r, r = idxI P xs := ⟨_, rfl⟩
 rw [← hr] at HIX
 have HRI := Lib.hid hr
 obtain ⟨nx, hnx⟩ : ∃ nx, nx = xs.length := ⟨_, rfl⟩
 have HNX := Lib.hid hnx
 rw [← hnx] at HIX hnc ⊢
 clear hP hb ho hB hr hnx
 by_cases hneg : r = -1
 ·subst hneg
  have HF : Hid ((xs.filter fun x => !P x) = xs) := by
   unfold Hid
   rw [List.filter_eq_self]
   intro x hx
   rw [idxI_neg.1 HRI.out.symm x hx]
   rfl
  go_enter Tryz.func124, Tryz.ntmps124
  go_wp2_with fail
  refine Calls.mono HIX.out ?_
  rintro e w1 ⟨rfl, hb1⟩
  have HB1 := Lib.hid (HB.out.trans (hb1.mono HHB.out))
  have HO1 := Lib.hid (owns_below HO.out hb1)
  clear hb1 HIX
  go_wp2_with fail
  go_ret
  refine ⟨_, rfl, HB1.out, ?_⟩
  rw [HF.out, ← HNX.out]
  have h := HO1.out
  rw [← HNX.out] at h
  exact h
 ·obtain ⟨k0, hk0, hlt0, hp0, hpl⟩ : ∃ k0 : Nat, r = (k0 : Int) ∧ k0 < nx ∧ (∃ h : k0 < xs.length, P xs[k0] = true) ∧ ∀ j (h : j < xs.length), j < k0 → P xs[j] = false := by
   have h1 := HRI.out
   have h2 := HNX.out
   unfold idxI at h1
   by_cases hf : xs.findIdx P < xs.length
   ·rw [if_pos hf] at h1
    refine ⟨xs.findIdx P, h1, by omega, ⟨hf, List.findIdx_getElem (w := hf)⟩, fun j hj hjk => ?_⟩
    have := List.not_of_lt_findIdx hjk
    simpa using this
   ·rw [if_neg hf] at h1
    exact absurd h1 hneg
  subst hk0
  obtain ⟨g, ha2, hgB⟩ : ∃ g, a = some ⟨g, 0, none⟩ ∧ B ≤ g := by
   rcases HO.out.2 with ⟨e, e2⟩ | ⟨g, cap, cur, e, h1, -⟩
   ·have := HNX.out; omega
   ·simp only [Value.slice.injEq] at e
    exact ⟨g, e.1, h1⟩
  subst ha2
  have HGB := Lib.hid hgB
  have HIN : Hid (KeptIn P xs k0 (k0 + 1) (fun x => ((Value.int .i64) x))  (xs.map (Value.int .i64))) := KeptIn.start (by have := HNX.out; omega) hpl hp0.2
  have hne1 : ((k0 : Int) == -1) = false := beq_eq_false_iff_ne.2 (by omega)
  clear hneg hp0 hpl HRI
  go_enter Tryz.func124, Tryz.ntmps124
  go_wp2_with fail
  refine Calls.mono HIX.out ?_
  rintro e w1 ⟨rfl, hb1⟩
  have HB1 := Lib.hid (HB.out.trans (hb1.mono HHB.out))
  have HO1 : Hid (CellsAt w1 g 2 nx c (xs.map (Value.int .i64))) := CellsAt.of_owns (by have h := owns_below HO.out hb1; rw [← HNX.out] at h; exact h)
  clear hb1 HIX
  go_wp2_with fail
  go_loopw [5, 6, 7] (fun s5 s6 _ wr => ∃ (i j : Nat) (cs : List Value), s5 = .int .i64 i ∧ s6 = .int .i64 j ∧ j ≤ nx ∧ Below B w0 wr ∧ CellsAt wr g 2 nx c cs ∧ KeptIn P xs i j (fun x => (Value.int .i64) x) cs) (fun _ s6 _ _ => nx - (intOf s6).toNat)
  case atStart => exact ⟨k0, k0 + 1, _, rfl, by go_num, by omega, HB1.out, HO1.out, HIN.out⟩
  case round =>
   obtain ⟨i, j, cs, rfl, rfl, hj, hbl, hca, hki⟩ := hrel
   have HBL := Lib.hid hbl
   have HCA := Lib.hid hca
   have HKI := Lib.hid hki
   have hij := hki.lt
   by_cases hlt : j < nx
   ·have hltx : j < xs.length := by have := HNX.out; omega
    obtain ⟨x, hx⟩ : ∃ x, x = xs[j] := ⟨_, rfl⟩
    have HX := Lib.hid hx
    have cj : wr.cell? ⟨g, j, none⟩ = some (.int .i64 x) := by
     have h1 := hca.cell j (by omega)
     have h2 := hki.high j hltx (Nat.le_refl _)
     rw [h1, h2, hx]
    have ci := hca.cell_some i (by omega)
    obtain ⟨old, ci⟩ := ci
    have fi := hca.frozen i
    have hgl := hca.lt
    have HC := Lib.hid (HP.out wr hbl x (by rw [hx]; exact List.getElem_mem _))
    obtain ⟨b, hb⟩ : ∃ b, b = P x := ⟨_, rfl⟩
    rw [← hb] at HC
    have HBP := Lib.hid hb
    clear hb hx hbl hca hki ci fi
    go_wp2_with fail
    refine Calls.mono HC.out ?_
    rintro e w2 ⟨rfl, hb2⟩
    have HBL2 := Lib.hid (HBL.out.trans (hb2.mono (show B ≤ wr.heap.size from by have := HGB.out; omega)))
    have hca2 := HCA.out.below hb2
    have HCA2 := Lib.hid hca2
    obtain ⟨old, ci⟩ := hca2.cell_some i (by omega)
    have fi := hca2.frozen i
    clear hb2 hca2 cj
    cases b
    ·go_wp2_with fail
     go_roundw
     case rel => exact ⟨i + 1, j + 1, cs.set i (.int .i64 x), by go_num, by go_num, by omega, HBL2.out.setCell HGB.out _, HCA2.out.set i (by omega) _, by have h := HKI.out.keep hltx (by rw [← HX.out]; exact HBP.out.symm); rw [← HX.out] at h; exact h⟩
     case measure => simp [intOf]; omega
    ·go_wp2_with fail
     go_roundw
     case rel => exact ⟨i, j + 1, cs, rfl, by go_num, by omega, HBL2.out, HCA2.out, HKI.out.drop hltx (by rw [← HX.out]; exact HBP.out.symm)⟩
     case measure => simp [intOf]; omega
   ·obtain rfl : j = nx := by omega
    have HLEN : Hid ((xs.filter fun x => !P x).length = i ∧ i ≤ j ∧ (xs.filter fun x => !P x).map (Value.int .i64) = cs.take i) := by
     have h := hki.all (by have := HNX.out; omega)
     exact ⟨h.1, by omega, h.2⟩
    have hij2 : i < j := hij
    have hcl : ∀ ty, (Builtin.clear_ #[56] ty #[.slice (some ⟨g, i, none⟩) (j - i) (c - i)]).run Tryz.prog wr = .ok (.tuple #[]) (wr.setCells g i (List.replicate (j - i) (.int .i64 0))) :=
     fun ty => Lib.run_clear_slice wr _ _ ty _ Tryz.underlying56 (fun w => by kernel_rfl) rfl rfl g i _ _ (by omega) (fun t ht => by obtain ⟨o, ho⟩ := hca.cell_some (i + t) (by omega); rw [ho]; rfl) (fun t ht => hca.frozen (i + t))
    have HCAF : Hid (CellsAt (wr.setCells g i (List.replicate (j - i) (.int .i64 0))) g 2 j c (cs.take i ++ List.replicate (j - i) (.int .i64 0))) := hca.clear hij2
    have HBF : Hid (Below B w0 (wr.setCells g i (List.replicate (j - i) (.int .i64 0)))) := below_setCells HGB.out _ _ _ hbl
    clear hbl hca hki hij
    go_wp2_with fail
    go_ret
    refine ⟨_, rfl, HBF.out, ?_⟩
    rw [HLEN.out.1, HLEN.out.2.2]
    exact HCAF.out.owns (by rw [List.take_append_of_le_length (by have := HCAF.out.len; simp at this ⊢; omega), List.take_take]; simp) HLEN.out.2.1 HGB.out hnc hcc

end Go.Proofs.YtkbgncenjfebdaaGreatDoor

namespace Go.Proofs.YtkbgncenjfebdaaGreatDoor
open Go Go.RowKit

theorem Index_strs (lo : Nat) (v : Value) (x : ByteArray) (xs : List ByteArray) (w : World) (hv : SliceK 1 encS lo w v xs) :
  Calls Tryz.prog 133 #[v, .string x] w fun e w' => ∃ r : Int, e = .returned (.int .i64 r) ∧ decide (0 ≤ r) = (xs.any fun y => y.toList == x.toList) ∧ w = w' := by
 obtain ⟨a, c, rfl, hcn, hcc, hrow⟩ := hv
 go_enter Tryz.func133, Tryz.ntmps133
 go_wp2_with fail
 go_loop [8] (fun i => ∃ k : Nat, k ≤ xs.length ∧ i = .int .i64 k ∧ ∀ j (h : j < xs.length), j < k → (x.toList == xs[j].toList) = false) (fun i => xs.length - (intOf i).toNat)
 case atStart => exact ⟨0, Nat.zero_le _, rfl, fun _ _ h => by omega⟩
 case round =>
  obtain ⟨k, hk, rfl, ha⟩ := hrel
  have HA := Lib.hid ha
  clear ha
  by_cases hlt : k < xs.length
  ·obtain ⟨b1, o1, rfl, -, hbs, c1⟩ := hrow.one hlt
   simp only [encS, List.getElem?_cons_zero] at c1
   clear hrow
   cases h0 : (x.toList == xs[k].toList)
   ·have H0 := Lib.hid h0
    go_wp2_with fail
    go_round
    case rel => exact ⟨k + 1, by omega, by go_num, fun j h hj => by
     by_cases e : j = k
     ·subst e; exact H0.out
     ·exact HA.out j h (by omega)⟩
    case measure => simp [intOf]; omega
   ·have HF : Hid ((xs.any fun y => y.toList == x.toList) = true) := by
     unfold Hid
     rw [List.any_eq_true]
     exact ⟨xs[k], List.getElem_mem _, by rw [beq_iff_eq] at h0 ⊢; exact h0.symm⟩
    go_wp2_with fail
    go_ret
    exact ⟨_, rfl, by rw [HF.out]; simp, rfl⟩
  ·clear hrow
   go_wp2_with fail
   go_ret
   refine ⟨_, rfl, ?_, rfl⟩
   have : (xs.any fun y => y.toList == x.toList) = false := by
    rw [List.any_eq_false]
    intro y hy
    obtain ⟨j, hj, rfl⟩ := List.mem_iff_getElem.1 hy
    have := HA.out j hj (by omega)
    simp at this ⊢
    exact fun e => this e.symm
   rw [this]; simp

theorem Contains_strs (lo : Nat) (v : Value) (x : ByteArray) (xs : List ByteArray) (w : World) (hv : SliceK 1 encS lo w v xs) :
  Calls Tryz.prog 80 #[v, .string x] w fun e w' => e = .returned (.bool (xs.any fun y => y.toList == x.toList)) ∧ w = w' := by
 have HV := Lib.hid hv
 clear hv
 go_enter Tryz.func80, Tryz.ntmps80
 go_wp2_with fail
 refine (Index_strs lo v x xs _ HV.out).mono ?_
 rintro e w' ⟨r, rfl, hr, rfl⟩
 have HR := Lib.hid hr
 clear hr
 go_wp2_with fail
 go_ret
 exact ⟨ret_bool HR.out, rfl⟩

end Go.Proofs.YtkbgncenjfebdaaGreatDoor

namespace Go.Proofs.YtkbgncenjfebdaaGreatDoor
open Go Go.RowKit

set_option maxRecDepth 100000 in
set_option maxHeartbeats 2000000 in
theorem out_any (lo : Nat) (t : Lts) (lv ev : Value) (s : Int) (w : World) (hsmall : t.edges.length ≤ 1073741824) (he : SliceK 3 encE lo w ev t.edges) :
  Calls Tryz.prog 99 #[.agg #[.int .i64 t.states, .int .i64 t.initial, lv, ev], .int .i64 s] w (MadeOut t s w) := by
 obtain ⟨ae, ce, rfl, hen, hec, hrow⟩ := he
 obtain ⟨i0, hi, hz0, hz1, hz2⟩ := info_parts info_edge2
 have HB0 : Hid (Below w.heap.size w (w.alloc (.cells #[.int .i64 t.states, .int .i64 t.initial, lv, .slice ae t.edges.length ce] 30))) := (Below.refl _ _).alloc (Nat.le_refl _) _
 go_enter Tryz.func99, Tryz.ntmps99
 go_wp2_with fail
 go_loopw [5, 11] (fun v i wr => ∃ k : Nat, k ≤ t.edges.length ∧ i = .int .i64 k ∧ Below w.heap.size w wr ∧ wr.ownsRow w.heap.size 93 3 v ((t.edges.take k).filter fun e => e.src == s).length (((t.edges.take k).filter fun e => e.src == s).flatMap encE)) (fun _ i _ => t.edges.length - (intOf i).toNat)
 case atStart => exact ⟨0, Nat.zero_le _, rfl, HB0.out, World.ownsRow_nil _ _ _ _⟩
 case round =>
  obtain ⟨k, hk, rfl, hbl, ho⟩ := hrel
  have HBL := Lib.hid hbl
  have HO := Lib.hid ho
  have hsz := hbl.size
  have hfl : ((t.edges.take k).filter fun e => e.src == s).length ≤ k := Nat.le_trans (List.length_filter_le _ _) (List.length_take_le _ _)
  clear hbl ho
  by_cases hlt : k < t.edges.length
  ·obtain ⟨be, oe, rfl, -, hbe, e1, e2, e3⟩ := (hrow.below HBL.out).edge hlt
   clear hrow
   have HBA : Hid (Below w.heap.size w (wr.alloc (.cells #[.int .i64 t.edges[k].src, .int .i64 t.edges[k].lab, .int .i64 t.edges[k].dst] 93))) := HBL.out.alloc hsz _
   have HOA : Hid ((wr.alloc (.cells #[.int .i64 t.edges[k].src, .int .i64 t.edges[k].lab, .int .i64 t.edges[k].dst] 93)).ownsRow w.heap.size 93 3 u5 ((t.edges.take k).filter fun e => e.src == s).length (((t.edges.take k).filter fun e => e.src == s).flatMap encE)) := HO.out.alloc _
   cases g : (t.edges[k].src == s)
   ·have HL : Hid ((t.edges.take (k + 1)).filter (fun e => e.src == s) = (t.edges.take k).filter fun e => e.src == s) := by
     unfold Hid
     rw [List.take_succ_eq_append_getElem hlt, List.filter_append]
     simp [g]
    go_wp2_with fail
    go_roundw
    case rel => exact ⟨k + 1, by omega, by go_num, HBA.out, by rw [HL.out]; exact HOA.out⟩
    case measure => simp [intOf]; omega
   ·have HL : Hid ((t.edges.take (k + 1)).filter (fun e => e.src == s) = ((t.edges.take k).filter fun e => e.src == s) ++ [t.edges[k]]) := by
     unfold Hid
     rw [List.take_succ_eq_append_getElem hlt, List.filter_append]
     simp [g]
    generalize hfs : (t.edges.take k).filter (fun e => e.src == s) = fs at *
    have HFS := Lib.hid hfs
    clear hfs
    go_wp2_with (at_builtin; refine wpList_append_own _ rfl _ _ 28 rfl w.heap.size 93 i0 (.agg #[.int .i64 0, .int .i64 0, .int .i64 0]) 3 24 Tryz.underlying28 hi hz0 hz1 hz2 rfl (by decide) _ _ _ rfl (HOA.out.alloc _) ⟨wr.heap.size + 1, 0, none⟩ 1 1 (encE t.edges[k]) rfl rfl ?c1 ?c2 ?c3 ?c4 ?c5 ?_)
    case c1 => have := three_new (wr.alloc (.cells #[.int .i64 t.edges[k].src, .int .i64 t.edges[k].lab, .int .i64 t.edges[k].dst] 93)) t.edges[k] 93; simpa using this
    case c2 => intro u hu; simp [encE] at hu; rcases hu with rfl | rfl | rfl <;> rfl
    case c3 => simp [maxLen]; omega
    case c4 => omega
    case c5 => simp; omega
    intro v' w1 ho1 hg1 _
    have HO2 : Hid (w1.ownsRow w.heap.size 93 3 v' (fs ++ [t.edges[k]]).length ((fs ++ [t.edges[k]]).flatMap encE)) := by
     unfold Hid
     rw [List.length_append, List.flatMap_append, List.flatMap_singleton]
     exact ho1
    have HB2 : Hid (Below w.heap.size w w1) := (HBA.out.alloc (by simp; omega) _).grown hg1 (by simp; omega) (fun b e => (HO.out.lt b e).1)
    clear ho1 hg1
    go_wp2_with fail
    go_roundw
    case rel => exact ⟨k + 1, by omega, by go_num, HB2.out, by rw [HL.out]; exact HO2.out⟩
    case measure => simp [intOf]; omega
  ·clear hrow
   go_wp2_with fail
   go_ret
   obtain rfl : k = t.edges.length := by omega
   exact ⟨_, rfl, HBL.out, by unfold outOf; have := HO.out; rw [List.take_length] at this; exact this⟩

end Go.Proofs.YtkbgncenjfebdaaGreatDoor

namespace Go.Proofs.YtkbgncenjfebdaaGreatDoor
open Go Go.RowKit

theorem CloneS_own (lo : Nat) (v : Value) (xs : List ByteArray) (w : World) (hv : SliceK 1 encS lo w v xs) (hz : xs.length ≤ 1048576) :
  Calls Tryz.prog 71 #[v] w fun e w' => ∃ v', e = .returned v' ∧ w'.ownsRow w.heap.size 9 1 v' xs.length (xs.map Value.string) ∧ Below w.heap.size w w' := by
 obtain ⟨a, c, rfl, hn, hc, hrow⟩ := hv
 cases a with
 | none =>
  have h0 : xs.length = 0 := by
   rcases hrow with h | ⟨b, o, h, -⟩
   ·exact h
   ·cases h
  have hx : xs = [] := List.eq_nil_of_length_eq_zero h0
  subst hx
  refine (Tryz.slices_Clone_string_nil _ _ w).mono ?_
  rintro e w' ⟨rfl, rfl⟩
  exact ⟨_, rfl, World.ownsRow_nil _ _ _ _, Below.refl _ _⟩
 | some a =>
  rcases hrow with h0 | ⟨b, o, h, -, hb, hcell⟩
  ·have hx : xs = [] := List.eq_nil_of_length_eq_zero h0
   subst hx
   refine (Tryz.slices_Clone_string_zero a c w).mono ?_
   rintro e w' ⟨v', rfl, ho, -, hb⟩
   exact ⟨v', rfl, ho, hb⟩
  ·cases h
   refine (Tryz.slices_Clone_string b o xs.length c xs w (Nat.le_refl _) (by omega) (fun j hj => ?_)).mono ?_
   ·have := hcell j hj 0 (by omega)
    rw [List.getD_eq_getElem?_getD, List.getElem?_eq_getElem hj]
    simpa [encS] using this
   ·rintro e w' ⟨v', rfl, ho, -, hb2⟩
    rw [List.take_length] at ho
    exact ⟨v', rfl, ho, hb2⟩

end Go.Proofs.YtkbgncenjfebdaaGreatDoor
