/-
  What the reference computes for a model and a property: the step by a label, the code of the arguments, the pairs that can stay.
  The reference's l30Leave: the pairs that can leave.
  The reference's l30Verdict.
  What the reference computes: the pairs that can stay.
  Cells of rows of texts; what the element types of three lists are.
-/
import Derived.Test.YtmhpfmanagbggaaGreatDoorK19
import Derived.Test.YtmhpfmanagbggaaGreatDoorK3
import Derived.Test.YtmhpfmanagbggaaGreatDoorK14
import Derived.Test.YtmhpfmanagbggaaGreatDoorK6
import Derived.StillTailTactics
import Derived.Test.YtmhpfmanagbggaaGreatDoorK16
import Derived.Test.YtmhpfmanagbggaaGreatDoorK2
namespace Go.Proofs.YtmhpfmanagbggaaGreatDoor
open Go Go.RowKit

set_option maxRecDepth 100000 in
set_option maxHeartbeats 1000000 in
theorem l30To_any (bt bp be oe lo : Nat) (t p : Lts) (e : Edge) (q : Int) (w : World) (hE : ∀ i (h : i < p.edges.length), EdgeOk p p.edges[i]) (hek : EdgeOk t e) (ht : LtsPtr lo w bt t) (hp : LtsPtr lo w bp p)
  (hbe : be < w.heap.size) (he : EdgeCells w be oe e) :
  Calls Tryz.prog 60 #[.pointer (some ⟨bt, 0, none⟩), .pointer (some ⟨bp, 0, none⟩), .pointer (some ⟨be, oe, none⟩), .int .i64 q] w fun r w' => r = .returned (.int .i64 (toState t p e q)) ∧ Below w.heap.size w w' := by
 obtain ⟨e1, e2, e3⟩ := he
 cases g : (e.lab == 0)
 ·have hF : Hid (toState t p e q = goTo p q (labAt t e)) := by unfold Hid toState; rw [if_neg (by simpa using g)]
  obtain ⟨lv, ev, hpl, -, -, q2, -, hl, -⟩ := ht
  obtain ⟨al, cl, rfl, hln, hlc, hlrow⟩ := hl
  have hk0 := hek.l0
  have hk1 := hek.l1
  have hkn : e.lab.toNat < t.labels.length := by omega
  obtain ⟨bl, ol, rfl, -, hbl, c1⟩ := hlrow.one hkn
  simp only [encS, List.getElem?_cons_zero] at c1
  rw [labAt_get] at c1
  generalize labAt t e = ls at *
  have hlab : ∃ n : Nat, (n : Int) = e.lab := ⟨e.lab.toNat, by omega⟩
  obtain ⟨n, hn⟩ := hlab
  rw [← hn] at e2 c1 hk0 hk1 hkn g
  simp only [Int.toNat_natCast] at c1 hkn
  have HP := Lib.hid hp
  have HE := Lib.hid hE
  clear hn hlrow hk0 hk1 hp hE hek
  have s2 := later_cell hpl q2
  have f2 := later_cell hbe e2
  replace c1 := later_cell hbl c1
  clear e1 e3 q2
  go_enter Tryz.func60, Tryz.ntmps60
  go_wp2
  clear e2
  refine wp_region_later (by kernel_rfl) (by kernel_rfl) ?_
  repeat (go_big_quiet_step ((go_at_call 36; exact later_call (l12Go_any _ lo _ _ _ _ HE.out (LtsPtr.below HP.out (Later.h _))))))
  refine wpQuiet_nil ?_
  intro _ hw9
  obtain ⟨nl, hw8⟩ := hw9
  subst hw8
  go_wp2
  go_ret
  exact ⟨ret_int hF.out.symm, nl.h⟩
 ·have hF : Hid (toState t p e q = q) := by unfold Hid toState; rw [if_pos (by simpa using g)]
  clear e1 e3 ht hp hE hek
  go_enter Tryz.func60, Tryz.ntmps60
  go_wp2
  go_ret
  exact ⟨ret_int hF.out.symm, Below.refl _ _⟩

def RetCode (c : Int) (w : World) (e : Ending) (w' : World) : Prop := e = .returned (.int .i64 c) ∧ Below w.heap.size w w'

theorem l30Ask_bad (bt bp lo : Nat) (t p : Lts) (w : World) (h1 : Short t.labels) (h2 : Short p.labels) (ht : LtsPtr lo w bt t) (hp : LtsPtr lo w bp p) (hn : ¬ (Valid t ∧ Valid p)) :
  Calls Tryz.prog 15 #[.pointer (some ⟨bt, 0, none⟩), .pointer (some ⟨bp, 0, none⟩)] w (RetCode 1 w) := by
 have HT := Lib.hid ht
 have HP := Lib.hid hp
 have H1 := Lib.hid h1
 have H2 := Lib.hid h2
 clear ht hp h1 h2
 by_cases hv : Valid t
 ·have hv2 : ¬ Valid p := fun h => hn ⟨hv, h⟩
  have HV := Lib.hid hv
  have HV2 := Lib.hid hv2
  clear hv hv2 hn
  go_enter Tryz.func15, Tryz.ntmps15
  go_wp2_with fail
  refine (Decides.yes (l11Is_any _ lo t _ H1.out HT.out) HV.out).mono ?_
  rintro e w1 ⟨rfl, hb1⟩
  have HB1 := Lib.hid hb1
  clear hb1
  go_wp2_with fail
  refine (Decides.no (l11Is_any _ lo p _ H2.out (HP.out.below HB1.out)) HV2.out).mono ?_
  rintro e w2 ⟨rfl, hb2⟩
  have HB2 := Lib.hid hb2
  clear hb2
  go_wp2_with fail
  go_ret
  exact ⟨rfl, HB1.out.trans (HB2.out.mono HB1.out.size)⟩
 ·have HV := Lib.hid hv
  clear hv hn
  go_enter Tryz.func15, Tryz.ntmps15
  go_wp2_with fail
  refine (Decides.no (l11Is_any _ lo t _ H1.out HT.out) HV.out).mono ?_
  rintro e w1 ⟨rfl, hb1⟩
  have HB1 := Lib.hid hb1
  clear hb1
  go_wp2_with fail
  go_ret
  exact ⟨rfl, HB1.out⟩

theorem l30Ask_good (bt bp lo : Nat) (t p : Lts) (w : World) (h1 : Short t.labels) (h2 : Short p.labels) (ht : LtsPtr lo w bt t) (hp : LtsPtr lo w bp p) (hv : Valid t) (hv2 : Valid p) (hs : Single p) :
  Calls Tryz.prog 15 #[.pointer (some ⟨bt, 0, none⟩), .pointer (some ⟨bp, 0, none⟩)] w (RetCode 0 w) := by
 have HT := Lib.hid ht
 have HP := Lib.hid hp
 have H1 := Lib.hid h1
 have H2 := Lib.hid h2
 have HV := Lib.hid hv
 have HV2 := Lib.hid hv2
 have HS := Lib.hid hs
 clear ht hp h1 h2 hv hv2 hs
 go_enter Tryz.func15, Tryz.ntmps15
 go_wp2_with fail
 refine (Decides.yes (l11Is_any _ lo t _ H1.out HT.out) HV.out).mono ?_
 rintro e w1 ⟨rfl, hb1⟩
 have HB1 := Lib.hid hb1
 clear hb1
 go_wp2_with fail
 refine (Decides.yes (l11Is_any _ lo p _ H2.out (HP.out.below HB1.out)) HV2.out).mono ?_
 rintro e w2 ⟨rfl, hb2⟩
 have HB2 := Lib.hid (HB1.out.trans (hb2.mono HB1.out.size))
 clear hb2
 go_wp2_with fail
 refine (Decides.yes (l11Single_any _ lo p _ (HP.out.below HB2.out)) HS.out).mono ?_
 rintro e w3 ⟨rfl, hb3⟩
 have HB3 := Lib.hid hb3
 clear hb3
 go_wp2_with fail
 go_ret
 exact ⟨rfl, HB2.out.trans (HB3.out.mono HB2.out.size)⟩

theorem l30Ask_state (bt bp lo : Nat) (t p : Lts) (w : World) (h1 : Short t.labels) (h2 : Short p.labels) (ht : LtsPtr lo w bt t) (hp : LtsPtr lo w bp p) (hv : Valid t) (hv2 : Valid p) (hs : ¬ Single p) :
  Calls Tryz.prog 15 #[.pointer (some ⟨bt, 0, none⟩), .pointer (some ⟨bp, 0, none⟩)] w (RetCode 6 w) := by
 have HT := Lib.hid ht
 have HP := Lib.hid hp
 have H1 := Lib.hid h1
 have H2 := Lib.hid h2
 have HV := Lib.hid hv
 have HV2 := Lib.hid hv2
 have HS := Lib.hid hs
 clear ht hp h1 h2 hv hv2 hs
 go_enter Tryz.func15, Tryz.ntmps15
 go_wp2_with fail
 refine (Decides.yes (l11Is_any _ lo t _ H1.out HT.out) HV.out).mono ?_
 rintro e w1 ⟨rfl, hb1⟩
 have HB1 := Lib.hid hb1
 clear hb1
 go_wp2_with fail
 refine (Decides.yes (l11Is_any _ lo p _ H2.out (HP.out.below HB1.out)) HV2.out).mono ?_
 rintro e w2 ⟨rfl, hb2⟩
 have HB2 := Lib.hid (HB1.out.trans (hb2.mono HB1.out.size))
 clear hb2
 go_wp2_with fail
 refine (Decides.no (l11Single_any _ lo p _ (HP.out.below HB2.out)) HS.out).mono ?_
 rintro e w3 ⟨rfl, hb3⟩
 have HB3 := Lib.hid hb3
 clear hb3
 go_wp2_with fail
 go_ret
 exact ⟨rfl, HB2.out.trans (HB3.out.mono HB2.out.size)⟩

end Go.Proofs.YtmhpfmanagbggaaGreatDoor

namespace Go.Proofs.YtmhpfmanagbggaaGreatDoor
open Go Go.RowKit

theorem info_boolL : (Tryz.prog.info? 4).map (fun i => (i.zero, i.size, i.bytes)) = some (some (.bool false), 1, 1) := by kernel_rfl
/-- The list of marks. -/
def MadeLv (t p : Lts) (w : World) (e : Ending) (w' : World) : Prop :=
 ∃ c : List Bool, e = .returned (.slice (some ⟨w.heap.size, 0, none⟩) c.length c.length) ∧ Below w.heap.size w w' ∧ w.heap.size < w'.heap.size
  ∧ w'.ownsRow w.heap.size 4 1 (.slice (some ⟨w.heap.size, 0, none⟩) c.length c.length) c.length (c.map Value.bool) ∧ LvIs t p c
/-- What holds of the marks ahead of a sweep. -/
structure OuterLv (t p : Lts) (N B : Nat) (w wr : World) (gk : Nat) (b : Bool) (c : List Bool) : Prop where
 len : c.length = N
 sound : LvSound t p c
 rest : b = false → LvClosed t p c
 left : 2 * c.count false + b.toNat ≤ gk
 below : Below w.heap.size w wr
 grown : w.heap.size < wr.heap.size
 own : wr.ownsRow B 4 1 (.slice (some ⟨B, 0, none⟩) N N) N (c.map Value.bool)
/-- Nothing is to be marked at an edge. -/
def calmAt (t p : Lts) (c : List Bool) (e : Edge) (n : Nat) : Prop := ∀ q : Nat, q < n → lvB t p c e q = true → c.getD (idx p e.src q) false = true

set_option maxRecDepth 100000 in
set_option maxHeartbeats 4000000 in
theorem l30Leave_any (bt bp lo : Nat) (t p : Lts) (w : World) (hvt : Valid t) (hvp : Valid p) (ht : LtsPtr lo w bt t) (hp : LtsPtr lo w bp p) :
  Calls Tryz.prog 31 #[.pointer (some ⟨bt, 0, none⟩), .pointer (some ⟨bp, 0, none⟩)] w (MadeLv t p w) := by
 have HT := Lib.hid ht
 have HP := Lib.hid hp
 have VT := Lib.hid hvt
 have VP := Lib.hid hvp
 obtain ⟨S, hS⟩ : ∃ S : Nat, (S : Int) = t.states := ⟨t.states.toNat, by have := hvt.st0; omega⟩
 obtain ⟨P, hP⟩ : ∃ P : Nat, (P : Int) = p.states := ⟨p.states.toNat, by have := hvp.st0; omega⟩
 have hS1 : 1 ≤ S := by have := hvt.st0; omega
 have hS2 : S ≤ 40 := by have := hvt.st1; omega
 have hP1 : 1 ≤ P := by have := hvp.st0; omega
 have hP2 : P ≤ 40 := by have := hvp.st1; omega
 have hSP : S * P ≤ 1600 := Nat.mul_le_mul hS2 hP2
 obtain ⟨N, hN⟩ : ∃ N : Nat, N = S * P := ⟨_, rfl⟩
 have hNi : (S : Int) * (P : Int) = (N : Int) := by rw [hN]; simp
 have hN2 : N ≤ 1600 := by omega
 obtain ⟨i0, hi, hz0, hz1, hz2⟩ := info_parts info_boolL
 obtain ⟨_, evt, hbt, a0, -, -, a3, -, het⟩ := ht
 obtain ⟨_, _, hbp, b0, -, -, -, -, -⟩ := hp
 obtain ⟨ea, ec, rfl, hecn, hecc, herow⟩ := het
 obtain ⟨EN, hEN⟩ : ∃ EN, EN = t.edges.length := ⟨_, rfl⟩
 have hEN3 : EN ≤ 300 := by rw [hEN]; exact hvt.most
 rw [← hEN] at a3 hecn
 rw [← hS] at a0
 rw [← hP] at b0
 have HA0 := Lib.hid a0
 have HA3 := Lib.hid a3
 have HB0 := Lib.hid b0
 have HER := Lib.hid herow
 have HSS := Lib.hid hS
 have HPP := Lib.hid hP
 have HNN := Lib.hid hN
 have HEN := Lib.hid hEN
 clear hS hP hN hSP hvt hvp herow hEN a3
 go_enter Tryz.func31, Tryz.ntmps31
 go_wp2
 go_still_tail 9, (by kernel_rfl)
 have hwN : IntKind.i64.wrap (N : Int) = (N : Int) := IntWalk.i64_in _ (by omega)
 refine wpList_make_full _ rfl _ _ 59 rfl w.heap.size 4 i0 _ 1 Tryz.underlying59 hi hz0 hz1 .i64 .i64 _ _ N rfl rfl hwN hwN ?_ ?_ ?_ ?_
 ·rw [hz2]; omega
 ·simp [maxLen]; omega
 ·exact Nat.le_refl _
 intro w1 ho hg
 have hb1 : Below w.heap.size w w1 := ((Below.refl _ w).drew).grown hg (Nat.le_refl _) (fun _ h => by cases h)
 have hs1 : w.heap.size < w1.heap.size := (ho.lt _ rfl).2
 have hmk : (madeCells (Value.bool false).cells (N * 1)).toList = List.replicate N (.bool false) := by rw [Nat.mul_one]; exact toList_madeCells_one _ _
 have HO : Hid (w1.ownsRow w.heap.size 4 1 (.slice (some ⟨w.heap.size, 0, none⟩) N N) N (List.replicate N (.bool false))) := by unfold Hid; rw [← hmk]; exact ho
 clear hmk
 have HB1 := Lib.hid hb1
 clear hi hz0 hz1 hz2 i0 ho hg hb1 a0 b0
 go_wp2
 go_loopg [6] (2 * N + 1) (fun gk v6 wr => ∃ (c : List Bool) (b : Bool), v6 = .bool b ∧ OuterLv t p N w.heap.size w wr gk b c)
 case atStart => exact ⟨List.replicate N false, true, rfl, by simp, LvSound.start _ _ _, (fun h => by cases h), by simp, HB1.out, hs1, by simpa using HO.out⟩
 case round =>
  obtain ⟨c, b, rfl, hrel⟩ := hrel
  have HR := Lib.hid hrel
  have hcl := hrel.len
  have HCLN := Lib.hid hcl
  clear hrel HO HB1 hs1
  cases b
  ·go_wp2
   go_ret
   refine ⟨c, ?_, HR.out.below, HR.out.grown, ?_, ?_, HR.out.sound, HR.out.rest rfl⟩
   ·rw [hcl]; rfl
   ·rw [hcl]; exact HR.out.own
   ·rw [hcl, HNN.out, ← HSS.out, ← HPP.out]; simp
  ·clear hcl
   go_wp2
   go_loopw [6, 7] (fun v6 v7 wr => ∃ (i : Nat) (cB : List Bool) (b : Bool), v6 = .bool b ∧ v7 = .int .i64 i ∧ i ≤ EN ∧ More c cB b ∧ LvSound t p cB ∧ (b = false → ∀ j (h : j < t.edges.length), j < i → calmAt t p cB t.edges[j] P) ∧ Below w.heap.size w wr ∧ w.heap.size < wr.heap.size ∧ wr.ownsRow w.heap.size 4 1 (.slice (some ⟨w.heap.size, 0, none⟩) N N) N (cB.map Value.bool)) (fun _ v7 _ => EN - (intOf v7).toNat)
   case atStart => exact ⟨0, c, false, rfl, rfl, Nat.zero_le _, More.refl _, HR.out.sound, (fun _ _ _ h => absurd h (Nat.not_lt_zero _)), HR.out.below, HR.out.grown, HR.out.own⟩
   case round =>
    obtain ⟨i, cB, b, rfl, rfl, hi, hmo, hso, hcalm, hbl, hgr, ho⟩ := hrel
    obtain ⟨wB, rfl⟩ : ∃ wB : World, wB = wr := ⟨_, rfl⟩
    have HMO := Lib.hid hmo
    have HSO := Lib.hid hso
    have HCALM := Lib.hid hcalm
    have HBL := Lib.hid hbl
    have HOB := Lib.hid ho
    have a3 := keeps hbl hbt HA3.out
    have hbtB : bt < wB.heap.size := Nat.lt_of_lt_of_le hbt hbl.size
    clear hmo hso hcalm ho
    by_cases hlt : i < EN
    ·have hie : i < t.edges.length := by rw [← HEN.out]; exact hlt
     obtain ⟨g, o, rfl, -, hgw, e1, e2, e3⟩ := (HER.out.below hbl).edge hie
     have hek := VT.out.edge i hie
     have hem : t.edges[i] ∈ t.edges := List.getElem_mem _
     obtain ⟨e, hee⟩ : ∃ e, e = t.edges[i] := ⟨_, rfl⟩
     rw [← hee] at e1 e2 e3 hek hem
     have HEE := Lib.hid hee
     have HEK := Lib.hid hek
     have HEM := Lib.hid hem
     obtain ⟨sn, hsn⟩ : ∃ sn : Nat, (sn : Int) = e.src := ⟨e.src.toNat, by have := hek.s0; omega⟩
     obtain ⟨dn, hdn⟩ : ∃ dn : Nat, (dn : Int) = e.dst := ⟨e.dst.toNat, by have := hek.d0; omega⟩
     have hsS : sn < S := by have := hek.s1; have := HSS.out; omega
     have hdS : dn < S := by have := hek.d1; have := HSS.out; omega
     obtain ⟨lb, hlb⟩ : ∃ lb, lb = e.lab := ⟨_, rfl⟩
     rw [← hsn] at e1
     rw [← hdn] at e3
     rw [← hlb] at e2
     obtain ⟨WA, hWA⟩ : ∃ WA, WA = wB.alloc (.cells #[.int .i64 sn, .int .i64 lb, .int .i64 dn] 67) := ⟨_, rfl⟩
     obtain ⟨eb, heb⟩ : ∃ eb, eb = wB.heap.size := ⟨_, rfl⟩
     have hbA : Below wB.heap.size wB WA := by rw [hWA]; exact (Below.refl _ _).alloc (Nat.le_refl _) _
     have hX : Blk WA eb [.int .i64 sn, .int .i64 lb, .int .i64 dn] 67 := by rw [hWA, heb]; exact Blk.new wB _ _
     have HBA := Lib.hid (HBL.out.trans (hbA.mono HBL.out.size))
     have HX := Lib.hid hX
     have HOA := Lib.hid (owns_below HOB.out hbA)
     have HEBN : Hid (eb ≠ w.heap.size) := by unfold Hid; omega
     have hgA : w.heap.size < WA.heap.size := by have := hbA.size; omega
     have HSN := Lib.hid hsn
     have HDN := Lib.hid hdn
     have HLB := Lib.hid hlb
     have HWA := Lib.hid hWA
     have HEB := Lib.hid heb
     obtain ⟨m, hm⟩ : ∃ m : Nat, m = sn * P := ⟨_, rfl⟩
     have hmi : (sn : Int) * (P : Int) = (m : Int) := by rw [hm]; simp
     have HM := Lib.hid hm
     clear hbl hee hek hem hsn hdn hlb hWA heb hbA hX hm
     go_wp2
     rw [← HWA.out]
     try rw [← HEB.out]
     go_loopw [6, 9] (fun v6 v9 wr => ∃ (q : Nat) (cC : List Bool) (b : Bool), v6 = .bool b ∧ v9 = .int .i64 q ∧ q ≤ P ∧ More c cC b ∧ LvSound t p cC ∧ (b = false → (∀ j (h : j < t.edges.length), j < i → calmAt t p cC t.edges[j] P) ∧ calmAt t p cC e q) ∧ Below w.heap.size w wr ∧ w.heap.size < wr.heap.size ∧ wr.ownsRow w.heap.size 4 1 (.slice (some ⟨w.heap.size, 0, none⟩) N N) N (cC.map Value.bool) ∧ Blk wr eb [.int .i64 sn, .int .i64 lb, .int .i64 dn] 67) (fun _ v9 _ => P - (intOf v9).toNat)
     case atStart => exact ⟨0, cB, b, rfl, rfl, Nat.zero_le _, HMO.out, HSO.out, (fun h => ⟨HCALM.out h, fun _ h => absurd h (Nat.not_lt_zero _)⟩), HBA.out, hgA, HOA.out, HX.out⟩
     case round =>
      clear HBA hgA HOA HX HMO HSO HCALM
      obtain ⟨q, cC, b2, rfl, rfl, hqP, hmc, hsc, hcc, hbc, hgc, hoc, hxc⟩ := hrel
      obtain ⟨wC, rfl⟩ : ∃ wC : World, wC = wr := ⟨_, rfl⟩
      have HMC := Lib.hid hmc
      have HSC := Lib.hid hsc
      have HCC := Lib.hid hcc
      have HBC := Lib.hid hbc
      have HOC := Lib.hid hoc
      have HXC := Lib.hid hxc
      have HCL : Hid (cC.length = N) := by unfold Hid; rw [hmc.1]; exact HCLN.out
      have b0 := keeps hbc hbp HB0.out
      have hbpC : bp < wC.heap.size := Nat.lt_of_lt_of_le hbp hbc.size
      have lb0 := later_cell hbpC b0
      have lx0 := later_cell hxc.lt (hxc.cell 0 rfl)
      clear hmc hsc hcc hbc hoc hxc
      by_cases hq : q < P
      ·have hmq : m + q < N := by rw [HM.out, HNN.out]; exact pair_lt hsS hq
       have hqp : (q : Int) < p.states := by rw [← HPP.out]; omega
       have HIX : Hid (idx p e.src q = m + q) := by unfold Hid; rw [← HSN.out, idx_nat HPP.out, HM.out]
       go_wp2
       refine wp_region_later (by kernel_rfl) (by kernel_rfl) ?_
       repeat (go_big_quiet_step ((fail)))
       refine wpQuiet_nil ?_
       intro _ hw9
       obtain ⟨nl, hw8⟩ := hw9
       subst hw8
       obtain ⟨w6, hw6⟩ : ∃ w6, w6 = nl.w := ⟨_, rfl⟩
       have hb6 : Below wC.heap.size wC w6 := by rw [hw6]; exact nl.h
       rw [← hw6]
       have HB6 := Lib.hid (HBC.out.trans (hb6.mono HBC.out.size))
       have ho6 := owns_below HOC.out hb6
       have HX6 := Lib.hid (HXC.out.below hb6)
       have hg6 : w.heap.size < w6.heap.size := by have := hb6.size; omega
       have c1 := cell_bool ho6 hmq
       have HOO := Lib.hid ho6
       clear lb0 lx0 b0 hb6 hw6 nl ho6
       cases hcg : cC.getD (m + q) false
       ·rw [hcg] at c1
        have HCG := Lib.hid hcg
        have hxl := HX6.out.lt
        have HTO := Lib.hid (l30To_any bt bp eb 0 lo t p e q w6 VP.out.edge HEK.out (HT.out.below HB6.out) (HP.out.below HB6.out) hxl ⟨by rw [HX6.out.cell 0 rfl, HSN.out], by rw [HX6.out.cell 1 rfl, HLB.out], by rw [HX6.out.cell 2 rfl, HDN.out]⟩)
        have hzr := toState_range (t := t) VP.out e (q := (q : Int)) (by omega) hqp
        obtain ⟨z, hz⟩ : ∃ z, z = toState t p e q := ⟨_, rfl⟩
        rw [← hz] at HTO hzr
        have HZ := Lib.hid hz
        rw [← HPP.out] at hzr
        clear hcg hz hxl
        go_wp2_with fail
        refine HTO.out.mono ?_
        rintro r w7 ⟨rfl, hb7⟩
        have HB7 := Lib.hid (HB6.out.trans (hb7.mono HB6.out.size))
        have HO6 := Lib.hid (owns_below HOO.out hb7)
        have hx7 := HX6.out.below hb7
        have HX7 := Lib.hid hx7
        have hg7 : w.heap.size < w7.heap.size := by have := hb7.size; omega
        have lb2 := later_cell (Nat.lt_of_lt_of_le hbp HB7.out.size) (keeps HB7.out hbp HB0.out)
        have lx2 := later_cell hx7.lt (hx7.cell 2 rfl)
        clear hb7 hx7 c1 HTO
        by_cases hneg : z < 0
        ·have HLV : Hid (lvB t p cC e q = true) := by unfold Hid lvB; rw [← HZ.out, decide_eq_true hneg]; rfl
         go_wp2
         refine wp_region_later (by kernel_rfl) (by kernel_rfl) ?_
         repeat (go_big_quiet_step ((fail)))
         refine wpQuiet_nil ?_
         intro _ hw9
         obtain ⟨nl, hw8⟩ := hw9
         subst hw8
         have HI8 : Hid (More c (cC.set (m + q) true) true ∧ LvSound t p (cC.set (m + q) true)) := ⟨HMC.out.set (by rw [HCL.out]; exact hmq) HCG.out, by have h := HSC.out.set VT.out VP.out HEM.out hqp HLV.out; rw [HIX.out] at h; exact h⟩
         have ho8 := owns_below HO6.out nl.h
         obtain ⟨w8, hw8⟩ : ∃ w8, w8 = nl.w := ⟨_, rfl⟩
         have hb8 : Below w7.heap.size w7 w8 := by rw [hw8]; exact nl.h
         rw [← hw8] at ho8 ⊢
         have c8 := cell_bool ho8 hmq
         have f8 := ho8.frozenAt (m + q)
         have HO9 := Lib.hid (ho8.stored (m + q) (.bool true)).1
         have HB8 := Lib.hid (HB7.out.trans (hb8.mono HB7.out.size))
         have HX8 := Lib.hid (HX7.out.below hb8)
         have hg8 : w.heap.size < w8.heap.size := by have := hb8.size; omega
         clear lb2 lx2 hb8 hw8 nl ho8
         go_wp2
         go_roundw
         case rel => exact ⟨q + 1, cC.set (m + q) true, true, rfl, by go_num, by omega, HI8.out.1, HI8.out.2, (fun h => by cases h), HB8.out.setCell (Nat.le_refl _) _, by simpa using hg8, by rw [List.map_set]; exact HO9.out, HX8.out.setOther _ _ HEBN.out⟩
         case measure => simp [intOf]; omega
        ·obtain ⟨zn, hzn⟩ : ∃ zn : Nat, (zn : Int) = z := ⟨z.toNat, by omega⟩
         have hlv : lvB t p cC e q = cC.getD (dn * P + zn) false := by
          unfold lvB
          rw [← HZ.out, decide_eq_false hneg, Bool.false_or, ← HDN.out, ← hzn, idx_nat HPP.out]
         subst hzn
         have hzd : decide ((zn : Int) < 0) = false := decide_eq_false hneg
         obtain ⟨m2, hm2⟩ : ∃ m2 : Nat, m2 = dn * P := ⟨_, rfl⟩
         have hm2i : (dn : Int) * (P : Int) = (m2 : Int) := by rw [hm2]; simp
         have hlt2 : m2 + zn < N := by rw [hm2, HNN.out]; exact pair_lt hdS (by omega)
         rw [← hm2] at hlv
         have c2 := later_cell hg7 (cell_bool HO6.out hlt2)
         have HM2 := Lib.hid hm2
         clear hm2
         cases hbb : cC.getD (m2 + zn) false
         ·rw [hbb] at c2 hlv
          have HLV : Hid (lvB t p cC e q = false) := hlv
          clear hbb hlv
          go_wp2
          refine wp_region_later (by kernel_rfl) (by kernel_rfl) ?_
          repeat (go_big_quiet_step ((fail)))
          refine wpQuiet_nil ?_
          intro _ hw9
          obtain ⟨nl, hw8⟩ := hw9
          subst hw8
          have HBN := Lib.hid (HB7.out.trans (nl.h.mono HB7.out.size))
          have HON := Lib.hid (owns_below HO6.out nl.h)
          have HXN := Lib.hid (HX7.out.below nl.h)
          have hgN : w.heap.size < nl.w.heap.size := by have := nl.h.size; omega
          clear lb2 lx2 c2 hzd
          go_wp2
          go_roundw
          case rel => exact ⟨q + 1, cC, b2, rfl, by go_num, by omega, HMC.out, HSC.out, (fun h => ⟨(HCC.out h).1, fun q' hq' hl => by
           by_cases e9 : q' = q
           ·subst e9; rw [HLV.out] at hl; cases hl
           ·exact (HCC.out h).2 q' (by omega) hl⟩), HBN.out, hgN, HON.out, HXN.out⟩
          case measure => simp [intOf]; omega
         ·rw [hbb] at c2 hlv
          have HLV : Hid (lvB t p cC e q = true) := hlv
          clear hbb hlv
          go_wp2
          refine wp_region_later (by kernel_rfl) (by kernel_rfl) ?_
          repeat (go_big_quiet_step ((fail)))
          refine wpQuiet_nil ?_
          intro _ hw9
          obtain ⟨nl, hw8⟩ := hw9
          subst hw8
          have HI8 : Hid (More c (cC.set (m + q) true) true ∧ LvSound t p (cC.set (m + q) true)) := ⟨HMC.out.set (by rw [HCL.out]; exact hmq) HCG.out, by have h := HSC.out.set VT.out VP.out HEM.out hqp HLV.out; rw [HIX.out] at h; exact h⟩
          have ho8 := owns_below HO6.out nl.h
          obtain ⟨w8, hw8⟩ : ∃ w8, w8 = nl.w := ⟨_, rfl⟩
          have hb8 : Below w7.heap.size w7 w8 := by rw [hw8]; exact nl.h
          rw [← hw8] at ho8 ⊢
          have c8 := cell_bool ho8 hmq
          have f8 := ho8.frozenAt (m + q)
          have HO9 := Lib.hid (ho8.stored (m + q) (.bool true)).1
          have HB8 := Lib.hid (HB7.out.trans (hb8.mono HB7.out.size))
          have HX8 := Lib.hid (HX7.out.below hb8)
          have hg8 : w.heap.size < w8.heap.size := by have := hb8.size; omega
          clear lb2 lx2 c2 hzd hb8 hw8 nl ho8
          go_wp2
          go_roundw
          case rel => exact ⟨q + 1, cC.set (m + q) true, true, rfl, by go_num, by omega, HI8.out.1, HI8.out.2, (fun h => by cases h), HB8.out.setCell (Nat.le_refl _) _, by simpa using hg8, by rw [List.map_set]; exact HO9.out, HX8.out.setOther _ _ HEBN.out⟩
          case measure => simp [intOf]; omega
       ·rw [hcg] at c1
        have HCG := Lib.hid hcg
        clear hcg
        go_wp2
        go_roundw
        case rel => exact ⟨q + 1, cC, b2, rfl, by go_num, by omega, HMC.out, HSC.out, (fun h => ⟨(HCC.out h).1, fun q' hq' hl => by
         by_cases e9 : q' = q
         ·subst e9; rw [HIX.out]; exact HCG.out
         ·exact (HCC.out h).2 q' (by omega) hl⟩), HB6.out, hg6, HOO.out, HX6.out⟩
        case measure => simp [intOf]; omega
      ·obtain rfl : q = P := by omega
       clear lb0 lx0
       go_wp2
       go_roundw
       case rel => exact ⟨i + 1, cC, b2, rfl, by go_num, by omega, HMC.out, HSC.out, (fun h j hj hji => by
        by_cases e9 : j = i
        ·subst e9; rw [← HEE.out]; exact (HCC.out h).2
        ·exact (HCC.out h).1 j hj (by omega)), HBC.out, hgc, HOC.out⟩
       case measure => simp [intOf]; omega
    ·obtain rfl : i = EN := by omega
     clear hbl
     go_wp2
     go_roundg (2 * cB.count false + b.toNat)
     case measure =>
      have h1 := HR.out.left
      rcases HMO.out.2 with ⟨rfl, h2⟩ | ⟨rfl, h2⟩
      ·simp only [Bool.toNat_true] at *; omega
      ·rw [h2]; simp only [Bool.toNat_true, Bool.toNat_false] at *; omega
     case rel =>
      exact ⟨cB, b, rfl, by rw [HMO.out.1]; exact HCLN.out, HSO.out, (fun h e he q hq hl => by
       obtain ⟨j, hj, rfl⟩ := List.mem_iff_getElem.1 he
       exact HCALM.out h j hj (by rw [HEN.out]; exact hj) q (by have := HPP.out; omega) hl), Nat.le_refl _, HBL.out, hgr, HOB.out⟩

end Go.Proofs.YtmhpfmanagbggaaGreatDoor

namespace Go.Proofs.YtmhpfmanagbggaaGreatDoor
open Go Go.RowKit

set_option maxRecDepth 100000 in
set_option maxHeartbeats 4000000 in
theorem l30Verdict_any (bp lo lo2 g1 g2 N B : Nat) (p : Lts) (c d : List Bool) (sv : Value) (xs : List Int) (y : Int) (w : World) (hvp : Valid p) (hp : LtsPtr lo w bp p) (hc : w.ownsRow B 4 1 (.slice (some ⟨g1, 0, none⟩) N N) N (c.map Value.bool)) (hd : w.ownsRow B 4 1 (.slice (some ⟨g2, 0, none⟩) N N) N (d.map Value.bool))
  (hs : SliceK 1 encI lo2 w sv xs) (hx : ∀ x ∈ xs, 0 ≤ x ∧ x.toNat * p.states.toNat + p.states.toNat ≤ N) (hy : y < p.states) (hxl : xs.length ≤ 1000) (hN : N ≤ 1600) :
  Calls Tryz.prog 34 #[.pointer (some ⟨bp, 0, none⟩), .slice (some ⟨g1, 0, none⟩) N N, .slice (some ⟨g2, 0, none⟩) N N, sv, .int .i64 y] w fun e w' => e = .returned (.int .i64 (vdL p c d xs y)) ∧ Below w.heap.size w w' := by
 obtain ⟨P, hP⟩ : ∃ P : Nat, (P : Int) = p.states := ⟨p.states.toNat, by have := hvp.st0; omega⟩
 have hP40 : P ≤ 40 := by have := hvp.st1; omega
 obtain ⟨sa, sc, rfl, -, -, hrow⟩ := hs
 obtain ⟨_, _, hbp, b0, -, -, -, -, -⟩ := hp
 rw [← hP] at b0
 have HB0 := Lib.hid b0
 have HR := Lib.hid hrow
 have HC := Lib.hid hc
 have HD := Lib.hid hd
 have HX := Lib.hid hx
 have HPP := Lib.hid hP
 obtain ⟨M, hM⟩ : ∃ M, M = xs.length := ⟨_, rfl⟩
 rw [← hM] at hxl ⊢
 have HM := Lib.hid hM
 rw [← hP] at hy
 clear hrow hc hd hx hM hP hvp b0
 by_cases hneg : y < 0
 ·have HF : Hid (vdL p c d xs y = 2) := by unfold Hid vdL; rw [if_pos hneg]
  go_enter Tryz.func34, Tryz.ntmps34
  go_wp2
  go_ret
  exact ⟨ret_int HF.out.symm, Below.refl _ _⟩
 ·obtain ⟨q, rfl⟩ : ∃ q : Nat, y = q := ⟨y.toNat, by omega⟩
  have hq : q < P := by omega
  have HV : Hid (vdL p c d xs q = if inV p c xs q = false then 1 else if inV p d xs q = false then 2 else 0) := by unfold Hid vdL; rw [if_neg hneg]
  go_enter Tryz.func34, Tryz.ntmps34
  go_wp2
  go_loopw [11, 12, 13] (fun v11 v12 v13 wr => ∃ k : Nat, k ≤ M ∧ v13 = .int .i64 k ∧ v11 = .bool (inV p c (xs.take k) q) ∧ v12 = .bool (inV p d (xs.take k) q) ∧ Below w.heap.size w wr) (fun _ _ v13 _ => M - (intOf v13).toNat)
  case atStart => exact ⟨0, Nat.zero_le _, rfl, rfl, rfl, Below.refl _ _⟩
  case round =>
   obtain ⟨k, hk, rfl, rfl, rfl, hbl⟩ := hrel
   obtain ⟨wC, rfl⟩ : ∃ wC : World, wC = wr := ⟨_, rfl⟩
   have HBL := Lib.hid hbl
   have hsz := hbl.size
   by_cases hlt : k < M
   ·have hlt2 : k < xs.length := by rw [← HM.out]; exact hlt
    obtain ⟨b, o, rfl, -, hbw, cx⟩ := (HR.out.below hbl).one hlt2
    simp only [encI, List.getElem?_cons_zero] at cx
    have HNA := Lib.hid (inV_succ p c q hlt2)
    have HNB := Lib.hid (inV_succ p d q hlt2)
    have hxx := HX.out _ (List.getElem_mem hlt2)
    obtain ⟨x, hxe⟩ : ∃ x, x = xs[k] := ⟨_, rfl⟩
    rw [← hxe] at cx HNA HNB hxx
    obtain ⟨xn, rfl⟩ : ∃ xn : Nat, x = xn := ⟨x.toNat, by omega⟩
    obtain ⟨m, hm⟩ : ∃ m : Nat, m = xn * P := ⟨_, rfl⟩
    have hmi : (xn : Int) * (P : Int) = (m : Int) := by rw [hm]; simp
    have hmq : m + q < N := by
     have h := hxx.2
     rw [← HPP.out] at h
     simp only [Int.toNat_natCast] at h
     omega
    rw [idx_nat HPP.out, ← hm] at HNA HNB
    obtain ⟨b1, hb1⟩ : ∃ b1, b1 = c.getD (m + q) false := ⟨_, rfl⟩
    obtain ⟨b2, hb2⟩ : ∃ b2, b2 = d.getD (m + q) false := ⟨_, rfl⟩
    have HE1 := Lib.hid hb1
    have HE2 := Lib.hid hb2
    rw [← hb1] at HNA
    rw [← hb2] at HNB
    obtain ⟨A, hA⟩ : ∃ A, A = inV p c (xs.take k) q := ⟨_, rfl⟩
    obtain ⟨A2, hA2⟩ : ∃ A2, A2 = inV p d (xs.take k) q := ⟨_, rfl⟩
    rw [← hA] at HNA ⊢
    rw [← hA2] at HNB ⊢
    have l0 := later_cell (Nat.lt_of_lt_of_le hbp hsz) (keeps hbl hbp HB0.out)
    have l1 := later_cell hbw cx
    have c1 := cell_bool (owns_below HC.out hbl) hmq
    rw [← HE1.out] at c1
    have l2 := later_cell (World.block_lt_of_cell? _ _ c1) c1
    have CX := Lib.hid cx
    clear hbl hxe hxx hm hb1 hb2 hA hA2 c1 cx
    cases A <;> cases A2
    all_goals (
     go_wp2
     refine wp_region_later (by kernel_rfl) (by kernel_rfl) ?_
     repeat (go_big_quiet_step ((fail)))
     refine wpQuiet_nil ?_
     intro _ hw9
     obtain ⟨nl, hw8⟩ := hw9
     subst hw8
     obtain ⟨w2, hw2⟩ : ∃ w2, w2 = nl.w := ⟨_, rfl⟩
     have hq2 : Below wC.heap.size wC w2 := by rw [hw2]; exact nl.h
     rw [← hw2]
     have HQ2 := Lib.hid (HBL.out.trans (hq2.mono hsz))
     have hs2 := HQ2.out.size
     have l3 := later_cell (Nat.lt_of_lt_of_le hbp hs2) (keeps HQ2.out hbp HB0.out)
     have l4 := later_cell (Nat.lt_of_lt_of_le hbw hq2.size) (keeps hq2 hbw CX.out)
     have c2 := cell_bool (owns_below HD.out HQ2.out) hmq
     rw [← HE2.out] at c2
     have l5 := later_cell (World.block_lt_of_cell? _ _ c2) c2
     clear l0 l1 l2 hq2 hw2 nl c2
     go_wp2
     refine wp_region_later (by kernel_rfl) (by kernel_rfl) ?_
     repeat (go_big_quiet_step ((fail)))
     refine wpQuiet_nil ?_
     intro _ hw9
     obtain ⟨nl, hw8⟩ := hw9
     subst hw8
     have HQ3 := Lib.hid (HQ2.out.trans (nl.h.mono hs2))
     clear l3 l4 l5
     go_wp2
     go_roundw
     case rel => exact ⟨k + 1, by omega, by go_num, by rw [HNA.out]; first | rfl | simp, by rw [HNB.out]; first | rfl | simp, HQ3.out⟩
     case measure => simp [intOf]; omega)
   ·obtain rfl : k = M := by omega
    have hall : xs.take k = xs := by rw [HM.out, List.take_length]
    rw [hall]
    obtain ⟨A, hA⟩ : ∃ A, A = inV p c xs q := ⟨_, rfl⟩
    obtain ⟨A2, hA2⟩ : ∃ A2, A2 = inV p d xs q := ⟨_, rfl⟩
    rw [← hA, ← hA2] at HV
    rw [← hA, ← hA2]
    clear hbl hall hA hA2
    cases A
    ·go_wp2
     go_ret
     exact ⟨ret_int HV.out.symm, HBL.out⟩
    ·cases A2
     ·go_wp2
      go_ret
      exact ⟨ret_int HV.out.symm, HBL.out⟩
     ·go_wp2
      go_ret
      exact ⟨ret_int HV.out.symm, HBL.out⟩

end Go.Proofs.YtmhpfmanagbggaaGreatDoor

namespace Go.Proofs.YtmhpfmanagbggaaGreatDoor
open Go Go.RowKit

theorem info_bool : (Tryz.prog.info? 4).map (fun i => (i.zero, i.size, i.bytes)) = some (some (.bool false), 1, 1) := by kernel_rfl

/-- The list of marks. -/
def MadeRest (t p : Lts) (w : World) (e : Ending) (w' : World) : Prop :=
 ∃ c : List Bool, e = .returned (.slice (some ⟨w.heap.size, 0, none⟩) c.length c.length) ∧ Below w.heap.size w w' ∧ w.heap.size < w'.heap.size
  ∧ w'.ownsRow w.heap.size 4 1 (.slice (some ⟨w.heap.size, 0, none⟩) c.length c.length) c.length (c.map Value.bool) ∧ c.length = t.states.toNat * p.states.toNat ∧ Rest t p (List.replicate (t.states.toNat * p.states.toNat) true) c

/-- What holds of the marks ahead of a sweep. -/
structure OuterRel (t p : Lts) (N B : Nat) (w wr : World) (gk : Nat) (b : Bool) (c : List Bool) : Prop where
 len : c.length = N
 iter : ∃ n, c = sweeps t p n (List.replicate N true)
 rest : b = false → sweepB t p c = c
 left : 2 * c.count true + b.toNat ≤ gk
 below : Below w.heap.size w wr
 grown : w.heap.size < wr.heap.size
 own : wr.ownsRow B 4 1 (.slice (some ⟨B, 0, none⟩) N N) N (c.map Value.bool)

/-- What holds of the marks within a sweep. -/
structure InnerRel (N B : Nat) (w wr : World) (c0 c : List Bool) (b : Bool) : Prop where
 less : Less c0 c b
 below : Below w.heap.size w wr
 grown : w.heap.size < wr.heap.size
 own : wr.ownsRow B 4 1 (.slice (some ⟨B, 0, none⟩) N N) N (c.map Value.bool)

set_option maxRecDepth 100000 in
set_option maxHeartbeats 4000000 in
theorem l30Stay_any (bt bp lo : Nat) (t p : Lts) (w : World) (hvt : Valid t) (hvp : Valid p) (ht : LtsPtr lo w bt t) (hp : LtsPtr lo w bp p) :
  Calls Tryz.prog 32 #[.pointer (some ⟨bt, 0, none⟩), .pointer (some ⟨bp, 0, none⟩)] w (MadeRest t p w) := by
 have HT := Lib.hid ht
 have HP := Lib.hid hp
 have VT := Lib.hid hvt
 have VP := Lib.hid hvp
 obtain ⟨S, hS⟩ : ∃ S : Nat, (S : Int) = t.states := ⟨t.states.toNat, by have := hvt.st0; omega⟩
 obtain ⟨P, hP⟩ : ∃ P : Nat, (P : Int) = p.states := ⟨p.states.toNat, by have := hvp.st0; omega⟩
 have hS1 : 1 ≤ S := by have := hvt.st0; omega
 have hS2 : S ≤ 40 := by have := hvt.st1; omega
 have hP1 : 1 ≤ P := by have := hvp.st0; omega
 have hP2 : P ≤ 40 := by have := hvp.st1; omega
 have hSP : S * P ≤ 1600 := Nat.mul_le_mul hS2 hP2
 obtain ⟨N, hN⟩ : ∃ N : Nat, N = S * P := ⟨_, rfl⟩
 have hNi : (S : Int) * (P : Int) = (N : Int) := by rw [hN]; simp
 have hN2 : N ≤ 1600 := by omega
 obtain ⟨i0, hi, hz0, hz1, hz2⟩ := info_parts info_bool
 obtain ⟨_, _, hbt, a0, -, -, -, -, -⟩ := ht
 obtain ⟨_, _, hbp, b0, -, -, -, -, -⟩ := hp
 rw [← hS] at a0
 rw [← hP] at b0
 have HA0 := Lib.hid a0
 have HB0 := Lib.hid b0
 have HSS := Lib.hid hS
 have HPP := Lib.hid hP
 have HNN := Lib.hid hN
 clear hS hP hN hSP hvt hvp
 go_enter Tryz.func32, Tryz.ntmps32
 go_wp2
 go_still_tail 9, (by kernel_rfl)
 have hwN : IntKind.i64.wrap (N : Int) = (N : Int) := IntWalk.i64_in _ (by omega)
 refine wpList_make_full _ rfl _ _ 59 rfl w.heap.size 4 i0 _ 1 Tryz.underlying59 hi hz0 hz1 .i64 .i64 _ _ N rfl rfl hwN hwN ?_ ?_ ?_ ?_
 ·rw [hz2]; omega
 ·simp [maxLen]; omega
 ·exact Nat.le_refl _
 intro w1 ho hg
 have hb1 : Below w.heap.size w w1 := ((Below.refl _ w).drew).grown hg (Nat.le_refl _) (fun _ h => by cases h)
 have hs1 : w.heap.size < w1.heap.size := (ho.lt _ rfl).2
 have hmk : (madeCells (Value.bool false).cells (N * 1)).toList = List.replicate N (.bool false) := by rw [Nat.mul_one]; exact toList_madeCells_one _ _
 have HO : Hid (w1.ownsRow w.heap.size 4 1 (.slice (some ⟨w.heap.size, 0, none⟩) N N) N (List.replicate N (.bool false))) := by unfold Hid; rw [← hmk]; exact ho
 clear hmk
 have HB1 := Lib.hid hb1
 clear hi hz0 hz1 hz2 i0 ho hg hb1 a0 b0
 go_wp2
 go_loopw [6] (fun i wr => ∃ k : Nat, k ≤ N ∧ i = .int .i64 k ∧ Below w.heap.size w wr ∧ w.heap.size < wr.heap.size ∧ wr.ownsRow w.heap.size 4 1 (.slice (some ⟨w.heap.size, 0, none⟩) N N) N (((List.replicate N true).take k).map Value.bool ++ List.replicate ((List.replicate N true).length - k) (.bool false))) (fun i _ => N - (intOf i).toNat)
 case atStart => exact ⟨0, Nat.zero_le _, rfl, HB1.out, hs1, by simpa using HO.out⟩
 case round =>
  obtain ⟨k, hk, rfl, hbl, hsz, ho⟩ := hrel
  have HBL := Lib.hid hbl
  clear hbl HO HB1
  by_cases hlt : k < N
  ·have hltr : k < (List.replicate N true).length := by simpa using hlt
   have c2 := ho.cellAt k (by omega)
   rw [filled_get _ _ _ _ hltr] at c2
   have c3 := ho.frozenAt k
   have ho2 := (ho.stored k (.bool true)).1
   have hset := filled_set (List.replicate N true) Value.bool (.bool false) k hltr
   rw [List.getElem_replicate] at hset
   rw [hset] at ho2
   have HO2 := Lib.hid ho2
   clear ho ho2 hset
   go_wp2
   go_roundw
   case rel => exact ⟨k + 1, by omega, by go_num, HBL.out.setCell (by exact Nat.le_refl _) _, by simpa using hsz, HO2.out⟩
   case measure => simp [intOf]; omega
  ·obtain rfl : N = k := by omega
   have HO := Lib.hid (show wr.ownsRow w.heap.size 4 1 (.slice (some ⟨w.heap.size, 0, none⟩) N N) N ((List.replicate N true).map Value.bool) by simpa using ho)
   clear ho
   go_wp2
   go_loopg [7] (2 * N + 1) (fun gk v7 wr => ∃ (c : List Bool) (b : Bool), v7 = .bool b ∧ OuterRel t p N w.heap.size w wr gk b c)
   case atStart => exact ⟨List.replicate N true, true, rfl, by simp, ⟨0, rfl⟩, (fun h => by cases h), by simp, HBL.out, hsz, HO.out⟩
   case round =>
    obtain ⟨c, b, rfl, hrel⟩ := hrel
    have HR := Lib.hid hrel
    have hcl := hrel.len
    clear hrel HO HBL hsz
    cases b
    ·go_wp2
     go_ret
     refine ⟨c, ?_, HR.out.below, HR.out.grown, ?_, ?_, ?_, HR.out.rest rfl⟩
     ·rw [hcl]; rfl
     ·rw [hcl]; exact HR.out.own
     ·rw [hcl, HNN.out, ← HSS.out, ← HPP.out]; simp
     ·rw [← HSS.out, ← HPP.out]; simp only [Int.toNat_natCast]; rw [← HNN.out]; exact HR.out.iter
    ·go_wp2
     go_loopw [7, 8] (fun v7 v8 wr => ∃ (k : Nat) (b : Bool), v7 = .bool b ∧ v8 = .int .i64 k ∧ k ≤ S ∧ InnerRel N w.heap.size w wr c (sweepTo t p k c) b) (fun _ v8 _ => S - (intOf v8).toNat)
     case atStart => exact ⟨0, false, rfl, rfl, Nat.zero_le _, Less.refl _, HR.out.below, HR.out.grown, HR.out.own⟩
     case round =>
      obtain ⟨k, b, rfl, rfl, hkS, hin⟩ := hrel
      have HI := Lib.hid hin
      have a0 := keeps hin.below hbt HA0.out
      have hg3 := hin.grown
      clear hin
      by_cases hlt : k < S
      ·go_wp2_with fail
       refine (l11Out_any _ lo t _ _ (by have := VT.out.most; omega) (HT.out.below HI.out.below)).mono ?_
       rintro e w9 ⟨lv, rfl, hb9, hol⟩
       have hl9 := SliceK.of_owns (enc := encE) encE_len rfl hol
       have HL9 := Lib.hid hl9
       obtain ⟨al, cl, rfl, hcl1, hcl2, -⟩ := hl9
       have HB9 := Lib.hid hb9
       have hs9 := hb9.size
       have HI9 : Hid (InnerRel N w.heap.size w w9 c (sweepTo t p k c) b) := ⟨HI.out.less, HI.out.below.trans (hb9.mono HI.out.below.size), by omega, owns_below HI.out.own hb9⟩
       have hlen300 : (outOf t k).length ≤ 300 := Nat.le_trans (List.length_filter_le _ _) VT.out.most
       clear hb9 hol a0
       generalize hck : sweepTo t p k c = ck at *
       have HCK := Lib.hid hck
       clear hck
       go_wp2
       go_loopw [7, 10] (fun v7 v10 wr => ∃ (q : Nat) (b : Bool), v7 = .bool b ∧ v10 = .int .i64 q ∧ q ≤ P ∧ InnerRel N w.heap.size w wr c (rowTo t p k q ck) b ∧ SliceK 3 encE (w.heap.size + 1) wr (.slice al (outOf t k).length cl) (outOf t k)) (fun _ v10 _ => P - (intOf v10).toNat)
       case atStart => exact ⟨0, b, rfl, rfl, Nat.zero_le _, by rw [rowTo_zero]; exact HI9.out, HL9.out.mono (by omega)⟩
       case round =>
        obtain ⟨q, b4, rfl, rfl, hqP, hin4, hl4⟩ := hrel
        have HI4 := Lib.hid hin4
        have HL4 := Lib.hid hl4
        have b0 := keeps hin4.below hbp HB0.out
        clear hin4 hl4 HI9
        by_cases hq : q < P
        ·obtain ⟨m, hm⟩ : ∃ m : Nat, m = k * P := ⟨_, rfl⟩
         have hmq : m + q < N := by rw [hm, HNN.out]; exact pair_lt hlt hq
         have hmi : (k : Int) * (P : Int) = (m : Int) := by rw [hm]; simp
         have hix : idx p k q = m + q := by rw [idx_nat HPP.out, hm]
         have HIX := Lib.hid hix
         have HM := Lib.hid hm
         generalize hcq : rowTo t p k q ck = cq at *
         have HCQ := Lib.hid hcq
         have HS1 : Hid (rowTo t p k (q + 1) ck = stepB t p k q cq) := by unfold Hid; rw [rowTo_succ, hcq]
         have c1 := cell_bool HI4.out.own hmq
         clear hm hix hcq
         cases hcg : cq.getD (m + q) false
         ·have HST : Hid (stepB t p k q cq = cq) := stepB_no1 (by rw [HIX.out]; exact hcg)
          rw [hcg] at c1
          clear hcg
          go_wp2
          go_roundw
          case rel => exact ⟨q + 1, b4, rfl, by go_num, by omega, by rw [HS1.out, HST.out]; exact HI4.out, HL4.out⟩
          case measure => simp [intOf]; omega
         ·rw [hcg] at c1
          have HCG := Lib.hid hcg
          clear hcg
          by_cases hle : (outOf t k).length = 0
          ·have hle' : (((outOf t k).length : Int) == 0) = true := by simp [hle]
           have HST : Hid (stepB t p k q cq = cq) := stepB_no2 (by rw [List.isEmpty_iff]; exact List.eq_nil_of_length_eq_zero hle)
           clear hle
           go_wp2
           go_roundw
           case rel => exact ⟨q + 1, b4, rfl, by go_num, by omega, by rw [HS1.out, HST.out]; exact HI4.out, HL4.out⟩
           case measure => simp [intOf]; omega
          ·have hle' : (((outOf t k).length : Int) == 0) = false := by rw [beq_eq_false_iff_ne]; omega
           have HNE : Hid ((outOf t k).isEmpty = false) := by
            unfold Hid
            cases h : outOf t k with
            | nil => rw [h] at hle; simp at hle
            | cons a r => rfl
           clear hle
           go_wp2
           obtain ⟨wo, rfl⟩ : ∃ wo : World, wo = wr := ⟨_, rfl⟩
           obtain ⟨al', cl', hv, -, -, hrow4⟩ := HL4.out
           simp only [Value.slice.injEq, true_and] at hv
           obtain ⟨rfl, rfl⟩ := hv
           have hdel : ∃ L, L = outOf t k := ⟨_, rfl⟩
           obtain ⟨L, hL⟩ := hdel
           rw [← hL] at hrow4 hle' hlen300 HL4 HNE HL9 ⊢
           have HLL := Lib.hid hL
           clear hL b0 c1
           go_loopw [12, 13] (fun v12 v13 w5 => ∃ j : Nat, j ≤ L.length ∧ v13 = .int .i64 j ∧ v12 = .bool (anyTo t p cq L q j) ∧ Below wo.heap.size wo w5) (fun _ v13 _ => L.length - (intOf v13).toNat)
           case atStart => exact ⟨0, Nat.zero_le _, rfl, rfl, Below.refl _ _⟩
           case round =>
            obtain ⟨j, hj, rfl, rfl, hb5⟩ := hrel
            have HB5 := Lib.hid hb5
            have HW5 : Hid (Below w.heap.size w wr) := HI4.out.below.trans (hb5.mono HI4.out.below.size)
            have hs5 := hb5.size
            clear hb5
            by_cases hjl : j < L.length
            ·obtain ⟨bl, ol, rfl, -, hbl, e1, e2, e3⟩ := (hrow4.below HB5.out).edge hjl
             have hek : EdgeOk t L[j] := outOf_ok VT.out k _ (by rw [← HLL.out]; exact List.getElem_mem _)
             have HEK := Lib.hid hek
             have HAS := Lib.hid (anyTo_succ t p cq L q j hjl)
             have hzr := toState_range (t := t) VP.out L[j] (q := (q : Int)) (by omega) (by have := HPP.out; omega)
             have hds0 := hek.d0
             have hds1 := hek.d1
             have hee : ∃ e, e = L[j] := ⟨_, rfl⟩
             obtain ⟨e, hee⟩ := hee
             rw [← hee] at e1 e2 e3 HEK HAS hzr hds0 hds1
             rw [← HSS.out] at hds1
             rw [← HPP.out] at hzr
             clear hee hek hrow4
             go_wp2_with fail
             refine (l30To_any bt bp bl (ol + j * 3) lo t p e _ _ VP.out.edge HEK.out (HT.out.below HW5.out) (HP.out.below HW5.out) hbl ⟨e1, e2, e3⟩).mono ?_
             rintro r w6 ⟨rfl, hb6⟩
             have HB6 := Lib.hid hb6
             have hs6 := hb6.size
             have hgw : w.heap.size < wr.heap.size := by have := HI4.out.grown; omega
             have e3 := later_cell (by omega) (keeps hb6 hbl e3)
             have b0 := later_cell (by omega) (keeps (HW5.out.trans (hb6.mono HW5.out.size)) hbp HB0.out)
             have HBX : Hid (Below wo.heap.size wo w6) := HB5.out.trans (hb6.mono hs5)
             clear e1 e2 hb6
             cases hA : anyTo t p cq L q j
             ·rw [hA] at HAS
              by_cases hz : 0 ≤ toState t p e q
              ·have hzd : decide (0 ≤ toState t p e q) = true := decide_eq_true hz
               rw [hzd] at HAS
               obtain ⟨zn, hzn⟩ : ∃ zn : Nat, (zn : Int) = toState t p e q := ⟨(toState t p e q).toNat, by omega⟩
               obtain ⟨dn, hdn⟩ : ∃ dn : Nat, (dn : Int) = e.dst := ⟨e.dst.toNat, by omega⟩
               rw [← hdn] at e3 HAS hds1
               rw [← hzn] at HAS hzr hz hzd ⊢
               obtain ⟨m2, hm2⟩ : ∃ m2 : Nat, m2 = dn * P := ⟨_, rfl⟩
               have hm2i : (dn : Int) * (P : Int) = (m2 : Int) := by rw [hm2]; simp
               have hlt2 : m2 + zn < N := by rw [hm2, HNN.out]; exact pair_lt (by omega) (by omega)
               rw [idx_nat HPP.out, ← hm2] at HAS
               have c2 := cell_bool (owns_below HI4.out.own HBX.out) hlt2
               have c2 := later_cell (by have := HI4.out.grown; have := HBX.out.size; omega) c2
               generalize hbb : cq.getD (m2 + zn) false = bb at *
               clear hm2 hdn hzn hbb hds0 hA
               go_wp2
               refine wp_region_later (by kernel_rfl) (by kernel_rfl) ?_
               repeat (go_big_quiet_step ((fail)))
               refine wpQuiet_nil ?_
               intro _ hw9
               obtain ⟨nl, hw8⟩ := hw9
               subst hw8
               clear e3 b0 c2 hzd
               go_wp2
               go_roundw
               case rel => exact ⟨j + 1, by omega, by go_num, by rw [HAS.out]; simp, HBX.out.trans (nl.h.mono HBX.out.size)⟩
               case measure => simp [intOf]; omega
              ·have hzd : decide (0 ≤ toState t p e q) = false := decide_eq_false hz
               rw [hzd] at HAS
               generalize toState t p e q = z at *
               clear hA
               go_wp2
               refine wp_region_later (by kernel_rfl) (by kernel_rfl) ?_
               repeat (go_big_quiet_step ((fail)))
               refine wpQuiet_nil ?_
               intro _ hw9
               obtain ⟨nl, hw8⟩ := hw9
               subst hw8
               clear e3 b0 hzd
               go_wp2
               go_roundw
               case rel => exact ⟨j + 1, by omega, by go_num, by rw [HAS.out]; simp, HBX.out.trans (nl.h.mono HBX.out.size)⟩
               case measure => simp [intOf]; omega
             ·rw [hA] at HAS
              generalize toState t p e q = z at *
              clear hA
              go_wp2
              refine wp_region_later (by kernel_rfl) (by kernel_rfl) ?_
              repeat (go_big_quiet_step ((fail)))
              refine wpQuiet_nil ?_
              intro _ hw9
              obtain ⟨nl, hw8⟩ := hw9
              subst hw8
              clear e3 b0
              go_wp2
              go_roundw
              case rel => exact ⟨j + 1, by omega, by go_num, by rw [HAS.out]; simp, HBX.out.trans (nl.h.mono HBX.out.size)⟩
              case measure => simp [intOf]; omega
            ·obtain rfl : j = L.length := by omega
             clear hrow4
             rw [anyTo_all]
             have hx := HLL.out
             clear HLL
             subst hx
             have HI5 : Hid (InnerRel N w.heap.size w wr c cq b4) := ⟨HI4.out.less, HW5.out, by have := HI4.out.grown; omega, owns_below HI4.out.own HB5.out⟩
             have HL5 := Lib.hid (HL4.out.below HB5.out)
             cases hgo : goesB t p cq (outOf t k) q
             ·have HST : Hid (stepB t p k q cq = cq.set (m + q) false) := by
               unfold Hid
               rw [stepB_set (by rw [HIX.out]; exact HCG.out) HNE.out hgo, HIX.out]
              have c1 := cell_bool HI5.out.own hmq
              have f1 := HI5.out.own.frozenAt (m + q)
              have HO6 := Lib.hid (HI5.out.own.stored (m + q) (.bool false)).1
              clear hgo
              go_wp2
              go_roundw
              case rel => exact ⟨q + 1, true, rfl, by go_num, by omega, by
                rw [HS1.out, HST.out]
                exact ⟨HI5.out.less.set HCG.out, HI5.out.below.setCell (by exact Nat.le_refl _) _, by simpa using HI5.out.grown, by rw [List.map_set]; exact HO6.out⟩, SliceK.grown HL5.out (grown_setCell _ _ _) (fun b e => by cases e; exact Nat.lt_succ_self _)⟩
              case measure => simp [intOf]; omega
             ·have HST : Hid (stepB t p k q cq = cq) := stepB_no3 hgo
              clear hgo
              go_wp2
              go_roundw
              case rel => exact ⟨q + 1, b4, rfl, by go_num, by omega, by rw [HS1.out, HST.out]; exact HI5.out, HL5.out⟩
              case measure => simp [intOf]; omega
        ·obtain rfl : P = q := by omega
         go_wp2
         go_roundw
         case rel => exact ⟨k + 1, b4, rfl, by go_num, by omega, by rw [sweepTo_succ, ← HPP.out, Int.toNat_natCast, HCK.out]; exact HI4.out⟩
         case measure => simp [intOf]; omega
      ·obtain rfl : S = k := by omega
       have hsw : sweepTo t p S c = sweepB t p c := by unfold sweepB; rw [← HSS.out, Int.toNat_natCast]
       rw [hsw] at HI
       clear hsw
       go_wp2
       go_roundg (2 * (sweepB t p c).count true + b.toNat)
       case measure =>
        have h1 := HR.out.left
        rcases HI.out.less.2 with ⟨rfl, h2⟩ | ⟨rfl, h2⟩
        ·simp only [Bool.toNat_true] at *; omega
        ·rw [h2]; simp only [Bool.toNat_true, Bool.toNat_false] at *; omega
       case rel =>
        obtain ⟨n, hn⟩ := HR.out.iter
        exact ⟨sweepB t p c, b, rfl, by rw [HI.out.less.1]; exact hcl, ⟨n + 1, by rw [sweeps_succ, ← hn]⟩, (fun h => by
         rcases HI.out.less.2 with ⟨h1, -⟩ | ⟨-, h1⟩
         ·rw [h1] at h; cases h
         ·rw [h1, h1]), Nat.le_refl _, HI.out.below, HI.out.grown, HI.out.own⟩

end Go.Proofs.YtmhpfmanagbggaaGreatDoor

namespace Go.Proofs.YtmhpfmanagbggaaGreatDoor
open Go Go.RowKit

theorem info_ints19 : (Tryz.prog.info? 30).map (fun i => (i.zero, i.size, i.bytes)) = some (some (.slice none 0 0), 1, 24) := by kernel_rfl
theorem info_edge19 : (Tryz.prog.info? 67).map (fun i => (i.zero, i.size, i.bytes)) = some (some (.agg #[.int .i64 0, .int .i64 0, .int .i64 0]), 3, 24) := by kernel_rfl
theorem info_str19 : (Tryz.prog.info? 9).map (fun i => (i.zero, i.size, i.bytes)) = some (some (.string ⟨#[]⟩), 1, 16) := by kernel_rfl

/-- The cells of a row of texts. -/
theorem row_news {w : World} {b o : Nat} {xs : List ByteArray} (h : ∀ i (h : i < xs.length) j, j < 1 → w.cell? ⟨b, o + i * 1 + j, none⟩ = (encS xs[i])[j]?) :
  ∀ j u, (xs.map Value.string)[j]? = some u → w.cell? ((⟨b, o, none⟩ : Addr).add j) = some u := by
 intro j u hu
 rw [List.getElem?_map, Option.map_eq_some_iff] at hu
 obtain ⟨x, hx, rfl⟩ := hu
 obtain ⟨hj, rfl⟩ := List.getElem?_eq_some_iff.1 hx
 have := h j hj 0 (by omega)
 by_cases h0 : j = 0
 ·subst h0
  simpa [encS, Addr.add] using this
 ·simpa [encS, Addr.add, h0] using this
theorem add_block (b o j : Nat) : ((⟨b, o, none⟩ : Addr).add j).block = b := by unfold Addr.add; split <;> rfl

end Go.Proofs.YtmhpfmanagbggaaGreatDoor
