/-
  The program's monitorCode, observe.
  The program's RunMonitor and EnforceTrace.
  The reference's l30Is: a valid monitor.
  The program's EnforceTrace; the reference's, where it refuses.
  The reference's EnforceTrace, where it refuses.
-/
import Derived.Test.YtmeibnhhlknbfaaGreatDoorF21
import Derived.Test.YtmeibnhhlknbfaaGreatDoorF20
import Derived.Test.YtmeibnhhlknbfaaGreatDoorF1
import Derived.Test.YtmeibnhhlknbfaaGreatDoorF16
import Derived.Test.YtmeibnhhlknbfaaGreatDoorF17
namespace Go.Proofs.YtmeibnhhlknbfaaGreatDoor
open Go Go.RowKit

/-- Of a code for a monitor and a trace. -/
def CodeIs (m : Mon) (tr : List ByteArray) (c : Int) : Prop := (¬ MonOk m ∧ c = 1) ∨ (MonOk m ∧ visB tr = false ∧ c = 2) ∨ (MonOk m ∧ visB tr = true ∧ c = 0)

set_option maxRecDepth 100000 in
set_option maxHeartbeats 1000000 in
theorem monitorCode_any (lo lo2 : Nat) (m : Mon) (lv ev vv tv : Value) (tr : List ByteArray) (w : World) (hsh : Short20 m.sys.labels) (hst : Short20 tr) (hp : MonIn lo w lv ev vv m) (ht : SliceK 1 encS lo2 w tv tr) (g : Glob w) :
  Calls Tryz.prog 15 #[.agg #[.int .i64 m.sys.states, .int .i64 m.sys.initial, lv, ev, vv], tv] w fun e w' => Below w.heap.size w w' ∧ ∃ c, e = .returned (.int .i64 c) ∧ CodeIs m tr c := by
 obtain ⟨tb, htb⟩ : ∃ tb, tb = w.heap.size := ⟨_, rfl⟩
 obtain ⟨wA, hwA⟩ : ∃ wA, wA = w.alloc (.cells #[.int .i64 m.sys.states, .int .i64 m.sys.initial, lv, ev, vv] 30) := ⟨_, rfl⟩
 have hbA : Below w.heap.size w wA := by rw [hwA]; exact (Below.refl _ _).alloc (Nat.le_refl _) _
 have HVM := Lib.hid (ValidMonitor_any lo m lv ev vv wA hsh (hp.below hbA) (g.below hbA))
 have HVI := Lib.hid (fun w' (hb : Below wA.heap.size wA w') => areVisible_any lo2 tv tr w' hst ((ht.below hbA).below hb) ((g.below hbA).below hb))
 have HBA := Lib.hid hbA
 have HWA := Lib.hid hwA
 have HTB := Lib.hid htb
 have hsW : w.heap.size ≤ wA.heap.size := hbA.size
 clear hsh hst hp ht g hwA hbA htb
 by_cases hv : MonOk m
 ·have HV := Lib.hid hv
  have HVY := Lib.hid (Decides.yes HVM.out hv)
  obtain ⟨b, hb⟩ : ∃ b, b = visB tr := ⟨_, rfl⟩
  rw [← hb] at HVI
  have HBV := Lib.hid hb
  clear hv HVM hb
  go_enter Tryz.func15, Tryz.ntmps15
  go_wp2_with fail
  rw [← HWA.out]
  try rw [← HTB.out]
  refine Calls.mono HVY.out ?_
  rintro e w1 ⟨rfl, hb1⟩
  have HB1 := Lib.hid hb1
  clear hb1 HVY
  go_wp2_with fail
  refine Calls.mono (HVI.out _ HB1.out) ?_
  rintro e w2 ⟨rfl, hb2⟩
  have HB2 := Lib.hid (HBA.out.trans ((HB1.out.trans (hb2.mono HB1.out.size)).mono hsW))
  clear hb2 HVI
  cases b
  ·have HR : Hid (CodeIs m tr 2) := .inr (.inl ⟨HV.out, HBV.out.symm, rfl⟩)
   go_wp2
   go_ret
   exact ⟨HB2.out, _, rfl, HR.out⟩
  ·have HR : Hid (CodeIs m tr 0) := .inr (.inr ⟨HV.out, HBV.out.symm, rfl⟩)
   go_wp2
   go_ret
   exact ⟨HB2.out, _, rfl, HR.out⟩
 ·have HVN := Lib.hid (Decides.no HVM.out hv)
  have HR : Hid (CodeIs m tr 1) := .inl ⟨hv, rfl⟩
  clear hv HVM
  go_enter Tryz.func15, Tryz.ntmps15
  go_wp2_with fail
  rw [← HWA.out]
  try rw [← HTB.out]
  refine Calls.mono HVN.out ?_
  rintro e w1 ⟨rfl, hb1⟩
  have HB1 := Lib.hid (HBA.out.trans (hb1.mono hsW))
  clear hb1 HVN
  go_wp2
  go_ret
  exact ⟨HB1.out, _, rfl, HR.out⟩

/-- The verdict's cell. -/
theorem vd_cell {lo : Nat} {m : Mon} {w : World} {vv : Value} (hok : MonOk m) (hv : SliceK 1 encI lo w vv m.vs) {k : Nat} (hk : (k : Int) < m.sys.states) :
  ∃ b o c, vv = .slice (some ⟨b, o, none⟩) m.vs.length c ∧ k < m.vs.length ∧ b < w.heap.size ∧ w.cell? ⟨b, o + k, none⟩ = some (.int .i64 (vdI m k)) := by
 have hl := hok.len
 obtain ⟨a, c, rfl, -, -, hrow⟩ := hv
 have hkl : k < m.vs.length := by omega
 obtain ⟨b, o, rfl, -, hb, hc⟩ := hrow.one hkl
 simp only [encI, List.getElem?_cons_zero] at hc
 refine ⟨b, o, c, rfl, hkl, hb, ?_⟩
 rw [hc]
 unfold vdI
 rw [Int.toNat_natCast, List.getD_eq_getElem?_getD, List.getElem?_eq_getElem hkl]
 rfl

set_option maxRecDepth 100000 in
set_option maxHeartbeats 1000000 in
theorem observe_any (lo k : Nat) (m : Mon) (lv ev vv : Value) (l : ByteArray) (w : World) (hok : MonOk m) (hk : (k : Int) < m.sys.states) (hp : MonIn lo w lv ev vv m) :
  Calls Tryz.prog 16 #[.agg #[.int .i64 m.sys.states, .int .i64 m.sys.initial, lv, ev, vv], .int .i64 k, .string l] w fun e w' => e = .returned (.int .i64 (obsI m k l)) ∧ Below w.heap.size w w' := by
 obtain ⟨b, o, c, rfl, hkl, hb, hc⟩ := vd_cell hok hp.marks hk
 obtain ⟨tb, htb⟩ : ∃ tb, tb = w.heap.size := ⟨_, rfl⟩
 obtain ⟨VN, hVN⟩ : ∃ VN, VN = m.vs.length := ⟨_, rfl⟩
 rw [← hVN] at hkl hp ⊢
 obtain ⟨wA, hwA⟩ : ∃ wA, wA = w.alloc (.cells #[.int .i64 m.sys.states, .int .i64 m.sys.initial, lv, ev, .slice (some ⟨b, o, none⟩) VN c] 30) := ⟨_, rfl⟩
 have hbA : Below w.heap.size w wA := by rw [hwA]; exact (Below.refl _ _).alloc (Nat.le_refl _) _
 have hX : Blk wA tb [.int .i64 m.sys.states, .int .i64 m.sys.initial, lv, ev, .slice (some ⟨b, o, none⟩) VN c] 30 := by rw [hwA, htb]; exact Blk.new w _ _
 have hcA := keeps hbA hb hc
 have HST := Lib.hid (step_any lo m.sys lv ev k l wA hok.valid hok.single (hp.labels.below hbA) (hp.edges.below hbA))
 obtain ⟨vk, hvk⟩ : ∃ vk, vk = vdI m k := ⟨_, rfl⟩
 rw [← hvk] at hcA
 have HB := Lib.hid hbA
 have HW := Lib.hid hwA
 have HTB := Lib.hid htb
 have x0 := hX.cell 0 rfl
 have x1 := hX.cell 1 rfl
 have x2 := hX.cell 2 rfl
 have x3 := hX.cell 3 rfl
 have x4 := hX.cell 4 rfl
 rw [hwA] at x0 x1 x2 x3 x4 hcA
 rw [htb] at x0 x1 x2 x3 x4
 have hsW : w.heap.size ≤ wA.heap.size := hbA.size
 by_cases h0 : vk = 0
 ·have HO : Hid (obsI m k l = goTo m.sys k l) := by unfold Hid obsI; rw [if_pos (by rw [← hvk]; exact h0)]
  have hg : (vk != 0) = false := by rw [h0]; rfl
  clear hok hk hp hc hvk hbA hwA htb hX hVN h0 hb
  go_enter Tryz.func16, Tryz.ntmps16
  go_wp2_with fail
  rw [← HW.out]
  refine Calls.mono HST.out ?_
  rintro e w1 ⟨rfl, hb1⟩
  have HB1 := Lib.hid (HB.out.trans (hb1.mono hsW))
  clear hb1
  go_wp2
  go_ret
  exact ⟨ret_int HO.out.symm, HB1.out⟩
 ·have HO : Hid (obsI m k l = k) := by unfold Hid obsI; rw [if_neg (by rw [← hvk]; exact h0)]
  have hg : (vk != 0) = true := by rw [bne_iff_ne]; exact h0
  clear hok hk hp hc hvk hbA hwA htb hX hVN h0 hb HST
  go_enter Tryz.func16, Tryz.ntmps16
  go_wp2
  rw [← HW.out]
  go_ret
  exact ⟨ret_int HO.out.symm, HB.out⟩

end Go.Proofs.YtmeibnhhlknbfaaGreatDoor

namespace Go.Proofs.YtmeibnhhlknbfaaGreatDoor
open Go Go.RowKit

theorem info_strE : (Tryz.prog.info? 9).map (fun i => (i.zero, i.size, i.bytes)) = some (some (.string ⟨#[]⟩), 1, 16) := by kernel_rfl
theorem results_three {w : World} {f : Func} {tmps : Array Value} {a b c : Nat} (h : f.results = #[.tmp a, .tmp b, .tmp c]) : (results f tmps).run Tryz.prog w = .ok (.tuple #[tmps.getD a undef, tmps.getD b undef, tmps.getD c undef]) w := by
 simp [results, h, go_sem]
def RunIs (m : Mon) (tr : List ByteArray) (v n c : Int) : Prop :=
 (¬ MonOk m ∧ v = 0 ∧ n = 0 ∧ c = 1) ∨ (MonOk m ∧ visB tr = false ∧ v = 0 ∧ n = 0 ∧ c = 2) ∨ (MonOk m ∧ visB tr = true ∧ runM m m.sys.initial 0 tr = (v, n, c))
def RetRun (m : Mon) (tr : List ByteArray) (w : World) (e : Ending) (w' : World) : Prop :=
 Below w.heap.size w w' ∧ ∃ v n c : Int, e = .returned (.tuple #[.int .i64 v, .int .i64 n, .int .i64 c]) ∧ RunIs m tr v n c

set_option maxRecDepth 100000 in
set_option maxHeartbeats 4000000 in
theorem RunMonitor_any (lo lo2 : Nat) (m : Mon) (lv ev vv tv : Value) (tr : List ByteArray) (w : World) (hsh : Short20 m.sys.labels) (hst : Short20 tr) (hp : MonIn lo w lv ev vv m) (ht : SliceK 1 encS lo2 w tv tr) (g : Glob w) :
  Calls Tryz.prog 9 #[.agg #[.int .i64 m.sys.states, .int .i64 m.sys.initial, lv, ev, vv], tv] w (RetRun m tr w) := by
 obtain ⟨ta, tc, rfl, htn, htc, htrow⟩ := id ht
 obtain ⟨va, vc, rfl, -⟩ := id hp.marks
 obtain ⟨tb, htb⟩ : ∃ tb, tb = w.heap.size := ⟨_, rfl⟩
 obtain ⟨VN, hVN⟩ : ∃ VN, VN = m.vs.length := ⟨_, rfl⟩
 obtain ⟨T, hT⟩ : ∃ T, T = tr.length := ⟨_, rfl⟩
 rw [← hVN] at hp ⊢
 rw [← hT] at ht htn ⊢
 obtain ⟨W, hW⟩ : ∃ W, W = w.alloc (.cells #[.int .i64 m.sys.states, .int .i64 m.sys.initial, lv, ev, .slice va VN vc] 30) := ⟨_, rfl⟩
 have hbW : Below w.heap.size w W := by rw [hW]; exact (Below.refl _ _).alloc (Nat.le_refl _) _
 have hX : Blk W tb [.int .i64 m.sys.states, .int .i64 m.sys.initial, lv, ev, .slice va VN vc] 30 := by rw [hW, htb]; exact Blk.new w _ _
 have HMC := Lib.hid (monitorCode_any lo lo2 m lv ev _ _ tr W hsh hst (hp.below hbW) (ht.below hbW) (g.below hbW))
 have HP := Lib.hid (hp.below hbW)
 have HTR : Hid (RowK 1 encS lo2 W ta tr) := htrow.below hbW
 have HX := Lib.hid hX
 have HB := Lib.hid hbW
 have HW := Lib.hid hW
 have HTB := Lib.hid htb
 have HVN := Lib.hid hVN
 have HT := Lib.hid hT
 have hsW : w.heap.size ≤ W.heap.size := hbW.size
 clear hsh hst hp ht g hW hbW hX htb hVN hT htrow
 go_enter Tryz.func9, Tryz.ntmps9
 go_wp2_with fail
 rw [← HW.out]
 try rw [← HTB.out]
 refine Calls.mono HMC.out ?_
 rintro e w1 ⟨hb1, c, rfl, hc⟩
 have HB1 := Lib.hid hb1
 have HBW1 : Hid (Below w.heap.size w w1) := HB.out.trans (hb1.mono hsW)
 clear HMC hb1
 rcases hc with ⟨h1, rfl⟩ | ⟨h1, h2, rfl⟩ | ⟨h1, h2, rfl⟩
 ·have HR : Hid (RetRun m tr w (.returned (.tuple #[.int .i64 0, .int .i64 0, .int .i64 1])) w1) := ⟨HBW1.out, 0, 0, 1, rfl, .inl ⟨h1, rfl, rfl, rfl⟩⟩
  clear h1
  go_wp2
  refine bodyPost_ret (results_three rfl) rfl ?_
  exact HR.out
 ·have HR : Hid (RetRun m tr w (.returned (.tuple #[.int .i64 0, .int .i64 0, .int .i64 2])) w1) := ⟨HBW1.out, 0, 0, 2, rfl, .inr (.inl ⟨h1, h2, rfl, rfl, rfl⟩)⟩
  clear h1 h2
  go_wp2
  refine bodyPost_ret (results_three rfl) rfl ?_
  exact HR.out
 ·have HOK := Lib.hid h1
  have HVI := Lib.hid h2
  obtain ⟨i0, hi0⟩ : ∃ i0 : Nat, (i0 : Int) = m.sys.initial := ⟨m.sys.initial.toNat, by have := h1.valid.in0; omega⟩
  have hi1 : (i0 : Int) < m.sys.states := by have := h1.valid.in1; omega
  have HI0 := Lib.hid hi0
  have hst40 := h1.valid.st1
  obtain ⟨ST, hST⟩ : ∃ ST, ST = m.sys.states := ⟨_, rfl⟩
  rw [← hST] at hi1 hst40 HX
  have HST := Lib.hid hST
  rw [← hi0] at HX
  have x1 := (HX.out.below HB1.out).cell 1 rfl
  clear h1 h2 hi0 hST
  go_wp2
  clear x1
  go_loopw [8, 9] (fun v8 v9 wr => ∃ kk j : Nat, j ≤ T ∧ (kk : Int) < ST ∧ v8 = .int .i64 kk ∧ v9 = .int .i64 j ∧ Below W.heap.size W wr ∧ runM m i0 0 tr = runM m kk j (tr.drop j)) (fun _ v9 _ => T - (intOf v9).toNat)
  case atStart => exact ⟨i0, 0, Nat.zero_le _, hi1, rfl, rfl, HB1.out, rfl⟩
  case round =>
   clear HB1 HBW1
   obtain ⟨kk, j, hj, hks, rfl, rfl, hbl, hrun⟩ := hrel
   obtain ⟨wC, rfl⟩ : ∃ wC : World, wC = wr := ⟨_, rfl⟩
   have HBL := Lib.hid hbl
   have HRUN := Lib.hid hrun
   obtain ⟨vb, vo, vc2, hve, hkV, hvb, hvc⟩ := vd_cell HOK.out (HP.out.below hbl).marks (k := kk) (by rw [← HST.out]; exact hks)
   simp only [Value.slice.injEq] at hve
   obtain ⟨rfl, -, rfl⟩ := hve
   rw [← HVN.out] at hkV
   obtain ⟨vk, hvk⟩ : ∃ vk, vk = vdI m kk := ⟨_, rfl⟩
   rw [← hvk] at hvc
   have HVK := Lib.hid hvk
   have hbx := (HX.out.below hbl).lt
   have x0 := (HX.out.below hbl).cell 0 rfl
   have x1 := (HX.out.below hbl).cell 1 rfl
   have x2 := (HX.out.below hbl).cell 2 rfl
   have x3 := (HX.out.below hbl).cell 3 rfl
   have x4 := (HX.out.below hbl).cell 4 rfl
   have HCV := Lib.hid hvc
   by_cases hlt : j < T
   ·have hjt : j < tr.length := by rw [← HT.out]; exact hlt
    have hdj : tr.drop j = tr[j] :: tr.drop (j + 1) := List.drop_eq_getElem_cons hjt
    obtain ⟨lb, lo3, rfl, -, hlb, hlc⟩ := (HTR.out.below hbl).one hjt
    simp only [encS, List.getElem?_cons_zero] at hlc
    obtain ⟨l, hl⟩ : ∃ l, l = tr[j] := ⟨_, rfl⟩
    rw [← hl] at hlc hdj
    rw [hdj] at hrun
    have HRUN2 := Lib.hid hrun
    by_cases h0 : vk = 0
    ·have hg : (vk == 0) = true := by rw [h0]; rfl
     have hvz : vdI m kk = 0 := by rw [← hvk]; exact h0
     have HOB : Hid (obsI m kk l = goTo m.sys kk l) := by unfold Hid obsI; rw [if_pos hvz]
     have hgr := goTo_range HOK.out.valid kk l
     obtain ⟨r, hr⟩ : ∃ r, r = goTo m.sys kk l := ⟨_, rfl⟩
     rw [← hr] at HOB hgr
     have HNO : Hid (r < 0 → runM m i0 0 tr = (0, 0, 3)) := fun h => by rw [hrun, runM_none hvz (by rw [← hr]; exact h)]
     have HYES : Hid (¬ r < 0 → runM m i0 0 tr = runM m r (j + 1 : Nat) (tr.drop (j + 1))) := fun h => by rw [hrun, runM_step hvz (by rw [← hr]; exact h), ← hr]; rfl
     rw [← HST.out] at hgr
     have l0 := later_cell hbx x0
     have l1 := later_cell hbx x1
     have l2 := later_cell hbx x2
     have l3 := later_cell hbx x3
     have l4 := later_cell hbx x4
     have l5 := later_cell hlb hlc
     have HPC := Lib.hid (HP.out.below hbl)
     have HOC : Hid (∀ w', Below wC.heap.size wC w' → Calls Tryz.prog 16 #[.agg #[.int .i64 ST, .int .i64 i0, lv, ev, .slice (some ⟨vb, vo, none⟩) VN vc], .int .i64 kk, .string l] w' fun e w'' => e = .returned (.int .i64 r) ∧ Below w'.heap.size w' w'') := fun w' hb => by
      have h := observe_any lo kk m lv ev _ l w' HOK.out (by rw [← HST.out]; exact hks) (HPC.out.below hb)
      rw [HOB.out, ← HST.out, ← HI0.out] at h
      exact h
     clear hdj hjt hl hrun hvk h0 hvz hr hbl
     go_wp2
     refine wp_region_later (by kernel_rfl) (by kernel_rfl) ?_
     repeat (go_big_quiet_step ((go_at_call 16; exact later_call (HOC.out _ (Later.h _)))))
     refine wpQuiet_nil ?_
     intro _ hw9
     obtain ⟨nl, hw8⟩ := hw9
     subst hw8
     have HBN : Hid (Below W.heap.size W nl.w) := HBL.out.trans (nl.h.mono HBL.out.size)
     clear l0 l1 l2 l3 l4 l5 x0 x1 x2 x3 x4 hvc hlc
     by_cases hr0 : r < 0
     ·have HR : Hid (RetRun m tr w (.returned (.tuple #[.int .i64 0, .int .i64 0, .int .i64 3])) nl.w) := ⟨HB.out.trans (HBN.out.mono hsW), 0, 0, 3, rfl, .inr (.inr ⟨HOK.out, HVI.out, by rw [← HI0.out]; exact HNO.out hr0⟩)⟩
      go_wp2
      refine bodyPost_ret (results_three rfl) rfl ?_
      exact HR.out
     ·have HYS := Lib.hid (HYES.out (by omega))
      obtain ⟨rn, rfl⟩ : ∃ rn : Nat, r = (rn : Int) := ⟨r.toNat, by omega⟩
      have hrs : (rn : Int) < ST := hgr.2
      clear hr0 hgr HYES HNO
      go_wp2
      go_roundw
      case rel => exact ⟨rn, j + 1, by omega, hrs, rfl, by go_num, HBN.out, HYS.out⟩
      case measure => simp [intOf]; omega
    ·have hg : (vk == 0) = false := by rw [beq_eq_false_iff_ne]; exact h0
     have HR : Hid (RetRun m tr w (.returned (.tuple #[.int .i64 vk, .int .i64 j, .int .i64 0])) wC) := ⟨HB.out.trans (HBL.out.mono hsW), vk, j, 0, rfl, .inr (.inr ⟨HOK.out, HVI.out, by rw [← HI0.out, HRUN.out, runM_end _ (by rw [← hvk]; exact h0), ← hvk]⟩)⟩
     clear hdj hjt hl hrun hvk h0 hbl
     go_wp2
     refine bodyPost_ret (results_three rfl) rfl ?_
     exact HR.out
   ·have HR : Hid (RetRun m tr w (.returned (.tuple #[.int .i64 vk, .int .i64 j, .int .i64 0])) wC) := ⟨HB.out.trans (HBL.out.mono hsW), vk, j, 0, rfl, .inr (.inr ⟨HOK.out, HVI.out, by
     rw [← HI0.out, HRUN.out, List.drop_eq_nil_of_le (by rw [← HT.out]; omega), hvk]
     rfl⟩)⟩
    clear hvk hrun hbl
    go_wp2
    refine bodyPost_ret (results_three rfl) rfl ?_
    exact HR.out

end Go.Proofs.YtmeibnhhlknbfaaGreatDoor

namespace Go.Proofs.YtmeibnhhlknbfaaGreatDoor
open Go Go.RowKit

theorem mon_all {m : Mon} (hv : Valid m.sys) (hs : Single m.sys) (hl : (m.vs.length : Int) = m.sys.states) (h : ∀ j (hj : j < m.vs.length), (0 ≤ m.vs[j] ∧ m.vs[j] ≤ 2) ∧ (m.vs[j] ≠ 0 → outOf m.sys (j : Int) = [])) : MonOk m := by
 refine ⟨hv, hs, hl, fun v hm => ?_, fun e he => ?_⟩
 ·obtain ⟨j, hj, rfl⟩ := List.mem_iff_getElem.1 hm
  exact (h j hj).1
 ·obtain ⟨i, hi, rfl⟩ := List.mem_iff_getElem.1 he
  have ho := hv.edge i hi
  have h0 := ho.s0
  have h1 := ho.s1
  have hj : m.sys.edges[i].src.toNat < m.vs.length := by omega
  rw [List.getD_eq_getElem?_getD, List.getElem?_eq_getElem hj]
  refine Classical.byContradiction fun hne => ?_
  have h2 := (h _ hj).2 hne
  have h3 : m.sys.edges[i] ∈ outOf m.sys ((m.sys.edges[i].src.toNat : Nat) : Int) := by
   unfold outOf
   rw [List.mem_filter]
   refine ⟨List.getElem_mem _, ?_⟩
   simp only [beq_iff_eq]
   omega
  rw [h2] at h3
  cases h3
theorem mon_not {m : Mon} {j : Nat} (hj : j < m.vs.length) (h1 : m.vs[j] ≠ 0) (h2 : outOf m.sys (j : Int) ≠ []) : ¬ MonOk m := fun h => by
 obtain ⟨e, t, ht⟩ := List.exists_cons_of_ne_nil h2
 have he : e ∈ outOf m.sys (j : Int) := by rw [ht]; exact List.mem_cons_self ..
 unfold outOf at he
 rw [List.mem_filter] at he
 have h3 := h.fin e he.1
 have h4 : e.src = (j : Int) := by simpa using he.2
 rw [h4, Int.toNat_natCast, List.getD_eq_getElem?_getD, List.getElem?_eq_getElem hj] at h3
 exact h1 h3

set_option maxRecDepth 100000 in
set_option maxHeartbeats 2000000 in
theorem l30Is_any (p lo : Nat) (m : Mon) (w : World) (hsh : Short m.sys.labels) (hp : MonPtr lo w p m) : Calls Tryz.prog 17 #[.pointer (some ⟨p, 0, none⟩)] w (Decides (MonOk m) w) := by
 have HS := Lib.hid hsh
 have HMP := Lib.hid hp
 obtain ⟨hl, vv, q4, hvs⟩ := hp
 have HL := Lib.hid hl
 obtain ⟨_, _, hpl, q0, -⟩ := hl
 obtain ⟨am, cm, rfl, hmn, hmc, hrow⟩ := hvs
 have HR := Lib.hid hrow
 have HQ0 := Lib.hid q0
 have HQ4 := Lib.hid q4
 obtain ⟨VN, hVN⟩ : ∃ VN, VN = m.vs.length := ⟨_, rfl⟩
 obtain ⟨ST, hST⟩ : ∃ ST, ST = m.sys.states := ⟨_, rfl⟩
 rw [← hVN] at HQ4 q4 hmn
 rw [← hST] at HQ0 q0
 have HVN := Lib.hid hVN
 have HST := Lib.hid hST
 replace q0 := later_cell hpl q0
 replace q4 := later_cell hpl q4
 clear hsh hrow hVN hST
 by_cases hv : Valid m.sys
 ·by_cases hs : Single m.sys
  ·by_cases hn : (VN : Int) = ST
   ·have HV := Lib.hid hv
    have HSI := Lib.hid hs
    have HN : Hid ((m.vs.length : Int) = m.sys.states) := by unfold Hid; rw [← HVN.out, ← HST.out]; exact hn
    have hst2 : ST ≤ 40 := by rw [HST.out]; exact hv.st1
    have hmost := hv.most
    have hb : ((VN : Int) != ST) = false := by rw [bne, beq_iff_eq.2 hn]; rfl
    have HNN := Lib.hid hn
    have hVN40 : VN ≤ 40 := by omega
    clear hv hs hn
    go_enter Tryz.func17, Tryz.ntmps17
    go_wp2
    refine wp_region_later (by kernel_rfl) (by kernel_rfl) ?_
    repeat (go_big_quiet_step ((first | (go_at_call 22; exact later_call (Decides.yes (l11Is_any p lo m.sys _ HS.out (LtsPtr.below HL.out (Later.h _))) HV.out)) | (go_at_call 31; exact later_call (Decides.yes (l11Single_any p lo m.sys _ (LtsPtr.below HL.out (Later.h _))) HSI.out)))))
    refine wpQuiet_nil ?_
    intro _ hw9
    obtain ⟨nl, hw8⟩ := hw9
    subst hw8
    have HB1 := Lib.hid nl.h
    obtain ⟨w1, hw1⟩ : ∃ w1, w1 = nl.w := ⟨_, rfl⟩
    rw [← hw1] at HB1 ⊢
    clear hw1 nl q0 q4 hb
    go_wp2
    go_loopw [3] (fun v3 wr => ∃ k : Nat, k ≤ VN ∧ v3 = .int .i64 k ∧ Below w.heap.size w wr ∧ ∀ j (hj : j < m.vs.length), j < k → (0 ≤ m.vs[j] ∧ m.vs[j] ≤ 2) ∧ (m.vs[j] ≠ 0 → outOf m.sys (j : Int) = [])) (fun v3 _ => VN - (intOf v3).toNat)
    case atStart => exact ⟨0, Nat.zero_le _, rfl, HB1.out, fun _ _ h => by omega⟩
    case round =>
     obtain ⟨k, hk, rfl, hbl, hx⟩ := hrel
     obtain ⟨wK, rfl⟩ : ∃ wK : World, wK = wr := ⟨_, rfl⟩
     have HX := Lib.hid hx
     have HBL := Lib.hid hbl
     have hsz := hbl.size
     have q4 := keeps hbl hpl HQ4.out
     clear hx HB1
     by_cases hlt : k < VN
     ·have hkm : k < m.vs.length := by rw [← HVN.out]; exact hlt
      obtain ⟨bv, ov, rfl, -, hbv, c1⟩ := (HR.out.below hbl).one hkm
      simp only [encI, List.getElem?_cons_zero] at c1
      obtain ⟨x, hx⟩ : ∃ x, x = m.vs[k] := ⟨_, rfl⟩
      rw [← hx] at c1
      have HXX := Lib.hid hx
      have HLK := Lib.hid (HL.out.below hbl)
      clear hx hbl
      have HIN := Lib.hid (l00In_any x 0 2 wK)
      cases hin : inB x 0 2
      ·rw [hin] at HIN
       have HNO : Hid (¬ MonOk m) := fun h => by
        have h9 := h.low m.vs[k] (List.getElem_mem _)
        rw [← HXX.out, ← inB_iff, hin] at h9
        cases h9
       clear hin
       go_wp2_with fail
       refine Calls.mono HIN.out ?_
       rintro e w2 ⟨rfl, rfl⟩
       go_wp2_with fail
       go_ret
       exact ⟨false, rfl, ⟨(fun h => by cases h), fun h => absurd h HNO.out⟩, HBL.out⟩
      ·rw [hin] at HIN
       have HI2 : Hid (0 ≤ m.vs[k] ∧ m.vs[k] ≤ 2) := by unfold Hid; rw [← HXX.out]; exact inB_iff.1 hin
       clear hin
       cases hx0 : (x == 0)
       ·have HX0 : Hid (m.vs[k] ≠ 0) := by unfold Hid; rw [← HXX.out]; simpa using hx0
        have hx0' : ¬ x = 0 := by simpa using hx0
        have hxb : (x != 0) = true := bne_iff_ne.2 hx0'
        have HOU := Lib.hid (l11Out_any p lo m.sys (k : Int) wK (by omega) HLK.out)
        go_wp2_with fail
        refine Calls.mono HIN.out ?_
        rintro e w2 ⟨rfl, rfl⟩
        go_wp2_with fail
        refine Calls.mono HOU.out ?_
        rintro e w3 ⟨v3, rfl, hb3, ho3⟩
        obtain ⟨a3, c3, rfl, -, -⟩ := owns_slice ho3
        obtain ⟨ON, hON⟩ : ∃ ON, ON = (outOf m.sys (k : Int)).length := ⟨_, rfl⟩
        rw [← hON]
        have HB3 := Lib.hid (HBL.out.trans (hb3.mono hsz))
        by_cases h0 : 0 < ON
        ·have HNO : Hid (¬ MonOk m) := mon_not hkm HX0.out (List.ne_nil_of_length_pos (by omega))
         clear hb3 ho3 HOU HIN hON
         go_wp2_with fail
         go_ret
         exact ⟨false, rfl, ⟨(fun h => by cases h), fun h => absurd h HNO.out⟩, HB3.out⟩
        ·have HNI : Hid (outOf m.sys (k : Int) = []) := List.eq_nil_of_length_eq_zero (by omega)
         clear hb3 ho3 HOU HIN hON
         go_wp2_with fail
         go_roundw
         case rel => exact ⟨k + 1, by omega, by go_num, HB3.out, fun j hj h => by
          by_cases e : j = k
          ·subst e; exact ⟨HI2.out, fun _ => HNI.out⟩
          ·exact HX.out j hj (by omega)⟩
         case measure => simp [intOf]; omega
       ·have HX0 : Hid (m.vs[k] = 0) := by unfold Hid; rw [← HXX.out]; simpa using hx0
        have hx0' : x = 0 := by simpa using hx0
        have hxb : (x != 0) = false := by rw [hx0']; rfl
        clear hx0'
        go_wp2_with fail
        refine Calls.mono HIN.out ?_
        rintro e w2 ⟨rfl, rfl⟩
        go_wp2_with fail
        go_roundw
        case rel => exact ⟨k + 1, by omega, by go_num, HBL.out, fun j hj h => by
         by_cases e : j = k
         ·subst e; exact ⟨HI2.out, fun h => absurd HX0.out h⟩
         ·exact HX.out j hj (by omega)⟩
        case measure => simp [intOf]; omega
     ·clear hbl
      go_wp2
      go_ret
      exact ⟨true, rfl, ⟨fun _ => mon_all HV.out HSI.out HN.out fun j hj => HX.out j hj (by have := HVN.out; omega), fun _ => rfl⟩, HBL.out⟩
   ·have HV := Lib.hid hv
    have HSI := Lib.hid hs
    have HN : Hid (¬ MonOk m) := fun h => hn (by have := h.len; rw [HVN.out, HST.out]; exact this)
    have hb : ((VN : Int) != ST) = true := by rw [bne, beq_eq_false_iff_ne.2 hn]; rfl
    clear hv hs hn
    go_enter Tryz.func17, Tryz.ntmps17
    go_wp2
    refine wp_region_later (by kernel_rfl) (by kernel_rfl) ?_
    repeat (go_big_quiet_step ((first | (go_at_call 22; exact later_call (Decides.yes (l11Is_any p lo m.sys _ HS.out (LtsPtr.below HL.out (Later.h _))) HV.out)) | (go_at_call 31; exact later_call (Decides.yes (l11Single_any p lo m.sys _ (LtsPtr.below HL.out (Later.h _))) HSI.out)))))
    refine wpQuiet_nil ?_
    intro _ hw9
    obtain ⟨nl, hw8⟩ := hw9
    subst hw8
    go_wp2
    go_ret
    exact ⟨false, rfl, ⟨(fun h => by cases h), fun h => absurd h HN.out⟩, nl.h⟩
  ·have HV := Lib.hid hv
   have HSI := Lib.hid hs
   clear hv hs
   go_enter Tryz.func17, Tryz.ntmps17
   go_wp2
   refine wp_region_later (by kernel_rfl) (by kernel_rfl) ?_
   repeat (go_big_quiet_step ((first | (go_at_call 22; exact later_call (Decides.yes (l11Is_any p lo m.sys _ HS.out (LtsPtr.below HL.out (Later.h _))) HV.out)) | (go_at_call 31; exact later_call (Decides.no (l11Single_any p lo m.sys _ (LtsPtr.below HL.out (Later.h _))) HSI.out)))))
   refine wpQuiet_nil ?_
   intro _ hw9
   obtain ⟨nl, hw8⟩ := hw9
   subst hw8
   go_wp2
   go_ret
   exact ⟨false, rfl, ⟨(fun h => by cases h), fun h => absurd h.single HSI.out⟩, nl.h⟩
 ·have HV := Lib.hid hv
  clear hv
  go_enter Tryz.func17, Tryz.ntmps17
  go_wp2
  refine wp_region_later (by kernel_rfl) (by kernel_rfl) ?_
  repeat (go_big_quiet_step ((first | (go_at_call 22; exact later_call (Decides.no (l11Is_any p lo m.sys _ HS.out (LtsPtr.below HL.out (Later.h _))) HV.out)))))
  refine wpQuiet_nil ?_
  intro _ hw9
  obtain ⟨nl, hw8⟩ := hw9
  subst hw8
  go_wp2
  go_ret
  exact ⟨false, rfl, ⟨(fun h => by cases h), fun h => absurd h.valid HV.out⟩, nl.h⟩

end Go.Proofs.YtmeibnhhlknbfaaGreatDoor

namespace Go.Proofs.YtmeibnhhlknbfaaGreatDoor
open Go Go.RowKit

def EnfIs (m : Mon) (tr outs : List ByteArray) (c : Int) : Prop :=
 (¬ MonOk m ∧ outs = [] ∧ c = 1) ∨ (MonOk m ∧ visB tr = false ∧ outs = [] ∧ c = 2) ∨ (MonOk m ∧ visB tr = true ∧ vdI m m.sys.initial = 2 ∧ outs = [] ∧ c = 6) ∨ (MonOk m ∧ visB tr = true ∧ vdI m m.sys.initial ≠ 2 ∧ outs = enfL m m.sys.initial tr ∧ c = 0)
def RetEnf (m : Mon) (tr : List ByteArray) (w : World) (e : Ending) (w' : World) : Prop :=
 Below w.heap.size w w' ∧ ∃ (v : Value) (outs : List ByteArray) (c : Int), e = .returned (.tuple #[v, .int .i64 c]) ∧ EnfIs m tr outs c ∧ OwnStrs w.heap.size w' v outs
theorem enf_none {m : Mon} {tr : List ByteArray} {c : Int} {w w' : World} (hb : Below w.heap.size w w') (h : EnfIs m tr [] c) : RetEnf m tr w (.returned (.tuple #[.slice none 0 0, .int .i64 c])) w' :=
 ⟨hb, _, [], c, rfl, h, World.ownsRow_nil _ _ _ _⟩

set_option maxRecDepth 100000 in
set_option maxHeartbeats 4000000 in
theorem EnforceTrace_any (lo lo2 : Nat) (m : Mon) (lv ev vv tv : Value) (tr : List ByteArray) (w : World) (hsh : Short20 m.sys.labels) (hst : Short20 tr) (hfew : tr.length ≤ 1048576) (hp : MonIn lo w lv ev vv m) (ht : SliceK 1 encS lo2 w tv tr) (g : Glob w) :
  Calls Tryz.prog 7 #[.agg #[.int .i64 m.sys.states, .int .i64 m.sys.initial, lv, ev, vv], tv] w (RetEnf m tr w) := by
 obtain ⟨ta, tc, rfl, htn, htc, htrow⟩ := id ht
 obtain ⟨va, vc, rfl, -⟩ := id hp.marks
 obtain ⟨is, his, hsz0, hsz1, hsz2⟩ := info_parts info_strE
 obtain ⟨tb, htb⟩ : ∃ tb, tb = w.heap.size := ⟨_, rfl⟩
 obtain ⟨VN, hVN⟩ : ∃ VN, VN = m.vs.length := ⟨_, rfl⟩
 obtain ⟨T, hT⟩ : ∃ T, T = tr.length := ⟨_, rfl⟩
 rw [← hVN] at hp ⊢
 rw [← hT] at ht htn hfew ⊢
 obtain ⟨W, hW⟩ : ∃ W, W = w.alloc (.cells #[.int .i64 m.sys.states, .int .i64 m.sys.initial, lv, ev, .slice va VN vc] 30) := ⟨_, rfl⟩
 have hbW : Below w.heap.size w W := by rw [hW]; exact (Below.refl _ _).alloc (Nat.le_refl _) _
 have hX : Blk W tb [.int .i64 m.sys.states, .int .i64 m.sys.initial, lv, ev, .slice va VN vc] 30 := by rw [hW, htb]; exact Blk.new w _ _
 have HMC := Lib.hid (monitorCode_any lo lo2 m lv ev _ _ tr W hsh hst (hp.below hbW) (ht.below hbW) (g.below hbW))
 have HP := Lib.hid (hp.below hbW)
 have HTR : Hid (RowK 1 encS lo2 W ta tr) := htrow.below hbW
 have HX := Lib.hid hX
 have HB := Lib.hid hbW
 have HW := Lib.hid hW
 have HTB := Lib.hid htb
 have HVN := Lib.hid hVN
 have HT := Lib.hid hT
 have hsW : w.heap.size ≤ W.heap.size := hbW.size
 clear hsh hst hp ht g hW hbW hX htb hVN hT htrow
 go_enter Tryz.func7, Tryz.ntmps7
 go_wp2_with fail
 rw [← HW.out]
 try rw [← HTB.out]
 refine Calls.mono HMC.out ?_
 rintro e w1 ⟨hb1, c, rfl, hc⟩
 have HB1 := Lib.hid hb1
 have HBW1 : Hid (Below w.heap.size w w1) := HB.out.trans (hb1.mono hsW)
 clear HMC hb1
 rcases hc with ⟨h1, rfl⟩ | ⟨h1, h2, rfl⟩ | ⟨h1, h2, rfl⟩
 ·have HR : Hid (RetEnf m tr w (.returned (.tuple #[.slice none 0 0, .int .i64 1])) w1) := enf_none HBW1.out (.inl ⟨h1, rfl, rfl⟩)
  clear h1
  go_wp2
  refine bodyPost_ret (results_tmp2 rfl _ _ _) rfl ?_
  exact HR.out
 ·have HR : Hid (RetEnf m tr w (.returned (.tuple #[.slice none 0 0, .int .i64 2])) w1) := enf_none HBW1.out (.inr (.inl ⟨h1, h2, rfl, rfl⟩))
  clear h1 h2
  go_wp2
  refine bodyPost_ret (results_tmp2 rfl _ _ _) rfl ?_
  exact HR.out
 ·have HOK := Lib.hid h1
  have HVI := Lib.hid h2
  obtain ⟨i0, hi0⟩ : ∃ i0 : Nat, (i0 : Int) = m.sys.initial := ⟨m.sys.initial.toNat, by have := h1.valid.in0; omega⟩
  have hi1 : (i0 : Int) < m.sys.states := by have := h1.valid.in1; omega
  have HI0 := Lib.hid hi0
  have hst40 := h1.valid.st1
  obtain ⟨ST, hST⟩ : ∃ ST, ST = m.sys.states := ⟨_, rfl⟩
  rw [← hST] at hi1 hst40 HX
  have HST := Lib.hid hST
  rw [← hi0] at HX
  have x1 := (HX.out.below HB1.out).cell 1 rfl
  have x4 := (HX.out.below HB1.out).cell 4 rfl
  obtain ⟨vb, vo, vc2, hve, hkV, hvb, hvc⟩ := vd_cell h1 (HP.out.below HB1.out).marks (k := i0) (by rw [← hST]; exact hi1)
  simp only [Value.slice.injEq] at hve
  obtain ⟨rfl, -, rfl⟩ := hve
  rw [← HVN.out] at hkV
  obtain ⟨vk, hvk⟩ : ∃ vk, vk = vdI m i0 := ⟨_, rfl⟩
  rw [← hvk] at hvc
  have HVK := Lib.hid hvk
  clear h1 h2 hi0 hST hvk
  by_cases hf : vk = 2
  ·have hg : (vk == 2) = true := by rw [hf]; rfl
   have HR : Hid (RetEnf m tr w (.returned (.tuple #[.slice none 0 0, .int .i64 6])) w1) := enf_none HBW1.out (.inr (.inr (.inl ⟨HOK.out, HVI.out, by rw [← HI0.out, ← HVK.out]; exact hf, rfl, rfl⟩)))
   clear hf
   go_wp2
   refine bodyPost_ret (results_tmp2 rfl _ _ _) rfl ?_
   exact HR.out
  ·have hg : (vk == 2) = false := by rw [beq_eq_false_iff_ne]; exact hf
   have HF : Hid (vdI m m.sys.initial ≠ 2) := by unfold Hid; rw [← HI0.out, ← HVK.out]; exact hf
   clear hf
   go_wp2
   clear x1 x4 hvc hg
   go_loopw [7, 8, 29] (fun v7 v8 v29 wr => ∃ (kk j : Nat) (p : Option Addr) (c : Nat) (outs : List ByteArray), j ≤ T ∧ outs.length ≤ j ∧ (kk : Int) < ST ∧ v7 = .int .i64 kk ∧ v8 = .slice p outs.length c ∧ v29 = .int .i64 j ∧ Below W.heap.size W wr ∧ OwnStrs W.heap.size wr (.slice p outs.length c) outs ∧ enfL m i0 tr = outs ++ enfL m kk (tr.drop j)) (fun _ _ v29 _ => T - (intOf v29).toNat)
   case atStart => exact ⟨i0, 0, none, 0, [], Nat.zero_le _, Nat.le_refl _, hi1, rfl, rfl, rfl, HB1.out, World.ownsRow_nil _ _ _ _, rfl⟩
   case round =>
    clear HB1 HBW1 hkV hvb
    obtain ⟨kk, j, p, c, outs, hj, hoj, hks, rfl, rfl, rfl, hbl, hown, henf⟩ := hrel
    obtain ⟨wC, rfl⟩ : ∃ wC : World, wC = wr := ⟨_, rfl⟩
    have HBL := Lib.hid hbl
    have HEN := Lib.hid henf
    have HOW := Lib.hid hown
    obtain ⟨OL, hOL⟩ : ∃ OL, OL = outs.length := ⟨_, rfl⟩
    have HOL := Lib.hid hOL
    rw [← hOL] at HOW hoj ⊢
    have hbx := (HX.out.below hbl).lt
    have x0 := (HX.out.below hbl).cell 0 rfl
    have x1 := (HX.out.below hbl).cell 1 rfl
    have x2 := (HX.out.below hbl).cell 2 rfl
    have x3 := (HX.out.below hbl).cell 3 rfl
    have x4 := (HX.out.below hbl).cell 4 rfl
    have hsC := hbl.size
    by_cases hlt : j < T
    ·have hjt : j < tr.length := by rw [← HT.out]; exact hlt
     have hdj : tr.drop j = tr[j] :: tr.drop (j + 1) := List.drop_eq_getElem_cons hjt
     obtain ⟨lb, lo3, rfl, -, hlb, hlc⟩ := (HTR.out.below hbl).one hjt
     simp only [encS, List.getElem?_cons_zero] at hlc
     obtain ⟨l, hl⟩ : ∃ l, l = tr[j] := ⟨_, rfl⟩
     rw [← hl] at hlc hdj
     have hgr := obsI_range HOK.out (k := kk) ⟨by omega, by rw [← HST.out]; exact hks⟩ l
     have HKEEP : Hid (keepB m kk l = true → enfL m i0 tr = (outs ++ [l]) ++ enfL m (obsI m kk l) (tr.drop (j + 1))) := fun h => by
      rw [henf, hdj, enfL_keep h, List.append_assoc]
      rfl
     have HDROP : Hid (keepB m kk l = false → enfL m i0 tr = outs ++ enfL m kk (tr.drop (j + 1))) := fun h => by rw [henf, hdj, enfL_drop h]
     have HOC := Lib.hid (observe_any lo kk m lv ev _ l wC HOK.out (by rw [← HST.out]; exact hks) (HP.out.below hbl))
     have HKB : Hid (keepB m kk l = (decide (0 ≤ obsI m kk l) && !(decide (vdI m (obsI m kk l) = 2)))) := rfl
     obtain ⟨r, hr⟩ : ∃ r, r = obsI m kk l := ⟨_, rfl⟩
     rw [← hr] at hgr HKEEP HOC HKB
     rw [← HST.out, ← HI0.out] at HOC
     rw [← HST.out] at hgr
     clear hdj hjt hl henf hr hbl hown hOL
     go_wp2_with fail
     refine Calls.mono HOC.out ?_
     rintro e w2 ⟨rfl, hb2⟩
     have HB2 : Hid (Below W.heap.size W w2) := HBL.out.trans (hb2.mono hsC)
     have HOW2 := Lib.hid (HOW.out.below hb2)
     have HOR2 : Hid (w2.ownsRow W.heap.size 9 1 (.slice p OL c) OL (txts outs)) := by
      have h := HOW2.out
      unfold OwnStrs at h
      rw [← HOL.out] at h
      exact h
     have hs2 : W.heap.size ≤ w2.heap.size := HB2.out.size
     have hlc2 := keeps hb2 hlb hlc
     clear hb2 HOC HOW x0 x1 x2 x3 x4 hlc
     by_cases hr0 : 0 ≤ r
     ·obtain ⟨rn, rfl⟩ : ∃ rn : Nat, r = (rn : Int) := ⟨r.toNat, by omega⟩
      have hrs : (rn : Int) < ST := hgr.2
      have y4 := (HX.out.below HB2.out).cell 4 rfl
      obtain ⟨vb3, vo3, vc3, hve3, hkV3, hvb3, hvc3⟩ := vd_cell HOK.out (HP.out.below HB2.out).marks (k := rn) (by rw [← HST.out]; exact hrs)
      simp only [Value.slice.injEq, Option.some.injEq, Addr.mk.injEq, and_true] at hve3
      obtain ⟨⟨rfl, rfl⟩, -, rfl⟩ := hve3
      rw [← HVN.out] at hkV3
      obtain ⟨vr, hvr⟩ : ∃ vr, vr = vdI m rn := ⟨_, rfl⟩
      rw [← hvr] at hvc3 HKB
      clear hvr
      by_cases h2 : vr = 2
      ·have hg2 : (vr != 2) = false := by rw [h2]; rfl
       have HNX := Lib.hid (HDROP.out (by rw [HKB.out, h2]; simp))
       clear h2 hr0
       go_wp2
       go_roundw
       case rel => exact ⟨kk, j + 1, p, c, outs, by omega, by have := HOL.out; omega, hks, rfl, by rw [← HOL.out], by go_num, HB2.out, by rw [← HOL.out]; exact HOW2.out, HNX.out⟩
       case measure => simp [intOf]; omega
      ·have hg2 : (vr != 2) = true := by rw [bne_iff_ne]; exact h2
       have HNX := Lib.hid (HKEEP.out (by rw [HKB.out]; simp [h2]))
       clear h2 hr0
       go_wp2_with (at_builtin; refine wpList_append_own _ rfl _ _ 24 rfl W.heap.size 9 is (.string ⟨#[]⟩) 1 16 Tryz.underlying24 his hsz0 hsz1 hsz2 rfl (by decide) _ _ _ rfl (HOR2.out.alloc _) ⟨w2.heap.size, 0, none⟩ 1 1 [.string l] rfl rfl ?c1 ?c2 ?c3 ?c4 ?c5 ?_)
       case c1 => exact World.news_of_block (cs := #[.string l]) (t := 9) (fr := (0, 0)) (heap_alloc_new w2 _)
       case c2 => intro u hu; simp at hu; subst hu; rfl
       case c3 => first | omega | (simp [maxLen]; omega)
       case c4 => first | omega | (simp; omega)
       case c5 => first | omega | (simp; omega)
       intro v' w4 ho4 hg4 _
       have hal : Below w2.heap.size w2 (w2.alloc (.cells #[.string l] 9)) := (Below.refl _ _).alloc (Nat.le_refl _) _
       obtain ⟨p4, c4, rfl, -, -⟩ := owns_slice ho4
       have HB4 : Hid (Below W.heap.size W w4) := (HB2.out.trans (hal.mono hs2)).grown hg4 (by simp; omega) (fun b e => (HOR2.out.lt b e).1)
       have HO4 : Hid (OwnStrs W.heap.size w4 (.slice p4 (outs ++ [l]).length c4) (outs ++ [l])) := by
        unfold Hid OwnStrs txts
        rw [List.length_append, List.length_singleton, ← HOL.out, List.map_append]
        exact ho4
       clear ho4 hg4 hal y4 hvc3 hlc2
       go_wp2
       go_roundw
       case rel => exact ⟨rn, j + 1, p4, c4, outs ++ [l], by omega, by have := HOL.out; simp; omega, hrs, rfl, by rw [List.length_append, List.length_singleton, ← HOL.out], by go_num, HB4.out, HO4.out, HNX.out⟩
       case measure => simp [intOf]; omega
     ·have HNX := Lib.hid (HDROP.out (by rw [HKB.out, decide_eq_false hr0]; rfl))
      have hr1 : ¬ (0 ≤ r) := hr0
      go_wp2
      go_roundw
      case rel => exact ⟨kk, j + 1, p, c, outs, by omega, by have := HOL.out; omega, hks, rfl, by rw [← HOL.out], by go_num, HB2.out, by rw [← HOL.out]; exact HOW2.out, HNX.out⟩
      case measure => simp [intOf]; omega
    ·have HEQ : Hid (outs = enfL m m.sys.initial tr) := by
      unfold Hid
      rw [← HI0.out, HEN.out, List.drop_eq_nil_of_le (by rw [← HT.out]; omega)]
      simp [enfL]
     have HR : Hid (RetEnf m tr w (.returned (.tuple #[.slice p OL c, .int .i64 0])) wC) := ⟨HB.out.trans (HBL.out.mono hsW), _, outs, 0, rfl, .inr (.inr (.inr ⟨HOK.out, HVI.out, HF.out, HEQ.out, rfl⟩)), by
      have h := HOW.out.lower hsW
      rw [HOL.out] at h ⊢
      exact h⟩
     clear henf hbl hown hOL
     go_wp2
     refine bodyPost_ret (results_tmp2 rfl _ _ _) rfl ?_
     exact HR.out

end Go.Proofs.YtmeibnhhlknbfaaGreatDoor

namespace Go.Proofs.YtmeibnhhlknbfaaGreatDoor
open Go Go.RowKit

theorem EnfIs.none {m : Mon} {tr outs : List ByteArray} {c : Int} (h : EnfIs m tr outs c) (hc : c ≠ 0) : outs = [] ∧ EnfIs m tr [] c := by
 rcases h with ⟨h1, h2, h3⟩ | ⟨h1, h2, h3, h4⟩ | ⟨h1, h2, h3, h4, h5⟩ | ⟨h1, h2, h3, h4, h5⟩
 ·exact ⟨h2, .inl ⟨h1, rfl, h3⟩⟩
 ·exact ⟨h3, .inr (.inl ⟨h1, h2, rfl, h4⟩)⟩
 ·exact ⟨h4, .inr (.inr (.inl ⟨h1, h2, h3, rfl, h5⟩))⟩
 ·exact absurd h5 hc

set_option maxRecDepth 100000 in
set_option maxHeartbeats 2000000 in
theorem specEnforce_any (lo lo2 : Nat) (m : Mon) (lv ev vv tv : Value) (tr : List ByteArray) (c : Int) (w : World) (hsh : Short m.sys.labels) (hst : Short tr) (hp : MonIn lo w lv ev vv m) (ht : SliceK 1 encS lo2 w tv tr) (hc : EnfIs m tr [] c) (hc0 : c ≠ 0) :
  Calls Tryz.prog 8 #[.agg #[.int .i64 m.sys.states, .int .i64 m.sys.initial, lv, ev, vv], tv] w fun e w' => e = .returned (.tuple #[.slice none 0 0, .int .i64 c]) ∧ Below w.heap.size w w' := by
 obtain ⟨tb, htb⟩ : ∃ tb, tb = w.heap.size := ⟨_, rfl⟩
 obtain ⟨W, hW⟩ : ∃ W, W = w.alloc (.cells #[.int .i64 m.sys.states, .int .i64 m.sys.initial, lv, ev, vv] 30) := ⟨_, rfl⟩
 have hbW : Below w.heap.size w W := by rw [hW]; exact (Below.refl _ _).alloc (Nat.le_refl _) _
 have hX : Blk W tb [.int .i64 m.sys.states, .int .i64 m.sys.initial, lv, ev, vv] 30 := by rw [hW, htb]; exact Blk.new w _ _
 have HMP : Hid (MonPtr lo W tb m) := ⟨⟨lv, ev, hX.lt, hX.cell 0 rfl, hX.cell 1 rfl, hX.cell 2 rfl, hX.cell 3 rfl, hp.labels.below hbW, hp.edges.below hbW⟩, vv, hX.cell 4 rfl, hp.marks.below hbW⟩
 have HIS := Lib.hid (l30Is_any tb lo m W hsh HMP.out)
 have HVI := Lib.hid (fun w' (hb : Below W.heap.size W w') => l12Visible_any lo2 tv tr w' hst ((ht.below hbW).below hb))
 have HMA := Lib.hid (hp.marks.below hbW)
 have HX := Lib.hid hX
 have HB := Lib.hid hbW
 have HW := Lib.hid hW
 have HTB := Lib.hid htb
 have hsW : w.heap.size ≤ W.heap.size := hbW.size
 clear hsh hst hp ht hW hbW hX htb
 rcases hc with ⟨h1, -, rfl⟩ | ⟨h1, h2, -, rfl⟩ | ⟨h1, h2, h3, -, rfl⟩ | ⟨-, -, -, -, h5⟩
 ·have HIN := Lib.hid (Decides.no HIS.out h1)
  clear h1 HIS
  go_enter Tryz.func8, Tryz.ntmps8
  go_wp2_with fail
  rw [← HW.out]
  try rw [← HTB.out]
  refine Calls.mono HIN.out ?_
  rintro e w1 ⟨rfl, hb1⟩
  have HB1 := Lib.hid (HB.out.trans (hb1.mono hsW))
  clear hb1 HIN
  go_wp2
  refine bodyPost_ret (results_tmp2 rfl _ _ _) rfl ?_
  exact ⟨rfl, HB1.out⟩
 ·have HIY := Lib.hid (Decides.yes HIS.out h1)
  rw [h2] at HVI
  clear h1 HIS h2
  go_enter Tryz.func8, Tryz.ntmps8
  go_wp2_with fail
  rw [← HW.out]
  try rw [← HTB.out]
  refine Calls.mono HIY.out ?_
  rintro e w1 ⟨rfl, hb1⟩
  have HB1 := Lib.hid hb1
  clear hb1 HIY
  go_wp2_with fail
  refine Calls.mono (HVI.out _ HB1.out) ?_
  rintro e w2 ⟨rfl, hb2⟩
  have HB2 := Lib.hid (HB.out.trans ((HB1.out.trans (hb2.mono HB1.out.size)).mono hsW))
  clear hb2 HVI
  go_wp2
  refine bodyPost_ret (results_tmp2 rfl _ _ _) rfl ?_
  exact ⟨rfl, HB2.out⟩
 ·have HIY := Lib.hid (Decides.yes HIS.out h1)
  rw [h2] at HVI
  have HOK := Lib.hid h1
  obtain ⟨i0, hi0⟩ : ∃ i0 : Nat, (i0 : Int) = m.sys.initial := ⟨m.sys.initial.toNat, by have := h1.valid.in0; omega⟩
  have hi1 : (i0 : Int) < m.sys.states := by have := h1.valid.in1; omega
  rw [← hi0] at h3 HX
  have HV2 := Lib.hid h3
  have HI0 := Lib.hid hi0
  have HI1 := Lib.hid hi1
  obtain ⟨va, vo, vc, rfl, hkV, -, -⟩ := vd_cell h1 HMA.out hi1
  clear HIS h2 h1 h3 hi0
  go_enter Tryz.func8, Tryz.ntmps8
  go_wp2_with fail
  rw [← HW.out]
  try rw [← HTB.out]
  refine Calls.mono HIY.out ?_
  rintro e w1 ⟨rfl, hb1⟩
  have HB1 := Lib.hid hb1
  clear hb1 HIY
  go_wp2_with fail
  refine Calls.mono (HVI.out _ HB1.out) ?_
  rintro e w2 ⟨rfl, hb2⟩
  have hbb : Below W.heap.size W w2 := HB1.out.trans (hb2.mono HB1.out.size)
  have HB2 := Lib.hid (HB.out.trans (hbb.mono hsW))
  obtain ⟨vb, vo2, vc2, hve, -, hvb, hvc⟩ := vd_cell HOK.out (HMA.out.below hbb) HI1.out
  simp only [Value.slice.injEq, Option.some.injEq, Addr.mk.injEq, and_true, true_and] at hve
  obtain ⟨⟨rfl, rfl⟩, rfl⟩ := hve
  rw [HV2.out] at hvc
  have x1 := (HX.out.below hbb).cell 1 rfl
  have x4 := (HX.out.below hbb).cell 4 rfl
  clear hb2 HVI hbb
  go_wp2
  refine bodyPost_ret (results_tmp2 rfl _ _ _) rfl ?_
  exact ⟨rfl, HB2.out⟩
 ·exact absurd h5 hc0

end Go.Proofs.YtmeibnhhlknbfaaGreatDoor
