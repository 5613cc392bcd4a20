/-
  The library's Index and Contains at a slice of texts.
  What the implementation's out computes: the edges from a state.
  The library's Clone at lists of texts.
  The implementation's readyLabels, isStable, stable, lacking, refuse.
  The implementation's name of a label.
  The implementation's areActions, namesIncrease, isInput, upTo, quiescent.
  The implementation's quiescent.
  ValidLts at a valid system, and at one that is not; boxes.
  The implementation's ValidInterface and checked.
  A system out of the search: plain facts, and a struct of four cells.
  What SuspensionLts and SuspensionAutomaton return. Plain.
-/
import Derived.Test.YtnmkncioekdehaaGreatDoorProg
import Derived.Test.YtnmkncioekdehaaGreatDoorY1
import Derived.Test.YtnmkncioekdehaaGreatDoorY3
import Derived.Test.YtnmkncioekdehaaGreatDoorY5
import Derived.Test.YtnmkncioekdehaaGreatDoorY15
import Derived.Test.YtnmkncioekdehaaGreatDoorY8
import Derived.Test.YtnmkncioekdehaaGreatDoorY9
import Derived.Deep.RegionHeld3
import Derived.Test.YtnmkncioekdehaaGreatDoorY7
import Derived.Handy
import Derived.Test.YtnmkncioekdehaaGreatDoorY6
import Derived.Test.YtnmkncioekdehaaGreatDoorY2
import Derived.Maps.AppendAt
import Derived.Test.YtnmkncioekdehaaGreatDoorRows
import Derived.BigQuiet
import Derived.Deep.QuietTactic
import Derived.Deep.LoopGhost
namespace Go.Proofs.YtnmkncioekdehaaGreatDoor
open Go Go.RowKit

theorem Index_strs (lo : Nat) (v : Value) (x : ByteArray) (xs : List ByteArray) (w : World) (hv : SliceK 1 encS lo w v xs) :
  Calls Tryz.prog 54 #[v, .string x] w fun e w' => ∃ r : Int, e = .returned (.int .i64 r) ∧ decide (0 ≤ r) = (xs.any fun y => y.toList == x.toList) ∧ w = w' := by
 obtain ⟨a, c, rfl, hcn, hcc, hrow⟩ := hv
 go_enter Tryz.func54, Tryz.ntmps54
 go_wp2_with fail
 go_loop [8] (fun i => ∃ k : Nat, k ≤ xs.length ∧ i = .int .i64 k ∧ ∀ j (h : j < xs.length), j < k → (x.toList == xs[j].toList) = false) (fun i => xs.length - (intOf i).toNat)
 case atStart => exact ⟨0, Nat.zero_le _, rfl, fun _ _ h => by omega⟩
 case round =>
  obtain ⟨k, hk, rfl, ha⟩ := hrel
  have HA := Lib.hid ha
  clear ha
  by_cases hlt : k < xs.length
  ·obtain ⟨b1, o1, rfl, -, hbs, c1⟩ := hrow.one hlt
   simp only [encS, List.getElem?_cons_zero] at c1
   clear hrow
   cases h0 : (x.toList == xs[k].toList)
   ·have H0 := Lib.hid h0
    go_wp2_with fail
    go_round
    case rel => exact ⟨k + 1, by omega, by go_num, fun j h hj => by
     by_cases e : j = k
     ·subst e; exact H0.out
     ·exact HA.out j h (by omega)⟩
    case measure => simp [intOf]; omega
   ·have HF : Hid ((xs.any fun y => y.toList == x.toList) = true) := by
     unfold Hid
     rw [List.any_eq_true]
     exact ⟨xs[k], List.getElem_mem _, by rw [beq_iff_eq] at h0 ⊢; exact h0.symm⟩
    go_wp2_with fail
    go_ret
    exact ⟨_, rfl, by rw [HF.out]; simp, rfl⟩
  ·clear hrow
   go_wp2_with fail
   go_ret
   refine ⟨_, rfl, ?_, rfl⟩
   have : (xs.any fun y => y.toList == x.toList) = false := by
    rw [List.any_eq_false]
    intro y hy
    obtain ⟨j, hj, rfl⟩ := List.mem_iff_getElem.1 hy
    have := HA.out j hj (by omega)
    simp at this ⊢
    exact fun e => this e.symm
   rw [this]; simp

theorem Contains_strs (lo : Nat) (v : Value) (x : ByteArray) (xs : List ByteArray) (w : World) (hv : SliceK 1 encS lo w v xs) :
  Calls Tryz.prog 24 #[v, .string x] w fun e w' => e = .returned (.bool (xs.any fun y => y.toList == x.toList)) ∧ w = w' := by
 have HV := Lib.hid hv
 clear hv
 go_enter Tryz.func24, Tryz.ntmps24
 go_wp2_with fail
 refine (Index_strs lo v x xs _ HV.out).mono ?_
 rintro e w' ⟨r, rfl, hr, rfl⟩
 have HR := Lib.hid hr
 clear hr
 go_wp2_with fail
 go_ret
 exact ⟨ret_bool HR.out, rfl⟩

end Go.Proofs.YtnmkncioekdehaaGreatDoor

namespace Go.Proofs.YtnmkncioekdehaaGreatDoor
open Go Go.RowKit

set_option maxRecDepth 100000 in
set_option maxHeartbeats 2000000 in
theorem out_any (lo : Nat) (t : Lts) (lv ev : Value) (s : Int) (w : World) (hsmall : t.edges.length ≤ 1073741824) (he : SliceK 3 encE lo w ev t.edges) :
  Calls Tryz.prog 71 #[.agg #[.int .i64 t.states, .int .i64 t.initial, lv, ev], .int .i64 s] w (MadeOut t s w) := by
 obtain ⟨ae, ce, rfl, hen, hec, hrow⟩ := he
 obtain ⟨i0, hi, hz0, hz1, hz2⟩ := info_parts info_edge2
 have HB0 : Hid (Below w.heap.size w (w.alloc (.cells #[.int .i64 t.states, .int .i64 t.initial, lv, .slice ae t.edges.length ce] 27))) := (Below.refl _ _).alloc (Nat.le_refl _) _
 go_enter Tryz.func71, Tryz.ntmps71
 go_wp2_with fail
 go_loopw [5, 11] (fun v i wr => ∃ k : Nat, k ≤ t.edges.length ∧ i = .int .i64 k ∧ Below w.heap.size w wr ∧ wr.ownsRow w.heap.size 47 3 v ((t.edges.take k).filter fun e => e.src == s).length (((t.edges.take k).filter fun e => e.src == s).flatMap encE)) (fun _ i _ => t.edges.length - (intOf i).toNat)
 case atStart => exact ⟨0, Nat.zero_le _, rfl, HB0.out, World.ownsRow_nil _ _ _ _⟩
 case round =>
  obtain ⟨k, hk, rfl, hbl, ho⟩ := hrel
  have HBL := Lib.hid hbl
  have HO := Lib.hid ho
  have hsz := hbl.size
  have hfl : ((t.edges.take k).filter fun e => e.src == s).length ≤ k := Nat.le_trans (List.length_filter_le _ _) (List.length_take_le _ _)
  clear hbl ho
  by_cases hlt : k < t.edges.length
  ·obtain ⟨be, oe, rfl, -, hbe, e1, e2, e3⟩ := (hrow.below HBL.out).edge hlt
   clear hrow
   have HBA : Hid (Below w.heap.size w (wr.alloc (.cells #[.int .i64 t.edges[k].src, .int .i64 t.edges[k].lab, .int .i64 t.edges[k].dst] 47))) := HBL.out.alloc hsz _
   have HOA : Hid ((wr.alloc (.cells #[.int .i64 t.edges[k].src, .int .i64 t.edges[k].lab, .int .i64 t.edges[k].dst] 47)).ownsRow w.heap.size 47 3 u5 ((t.edges.take k).filter fun e => e.src == s).length (((t.edges.take k).filter fun e => e.src == s).flatMap encE)) := HO.out.alloc _
   cases g : (t.edges[k].src == s)
   ·have HL : Hid ((t.edges.take (k + 1)).filter (fun e => e.src == s) = (t.edges.take k).filter fun e => e.src == s) := by
     unfold Hid
     rw [List.take_succ_eq_append_getElem hlt, List.filter_append]
     simp [g]
    go_wp2_with fail
    go_roundw
    case rel => exact ⟨k + 1, by omega, by go_num, HBA.out, by rw [HL.out]; exact HOA.out⟩
    case measure => simp [intOf]; omega
   ·have HL : Hid ((t.edges.take (k + 1)).filter (fun e => e.src == s) = ((t.edges.take k).filter fun e => e.src == s) ++ [t.edges[k]]) := by
     unfold Hid
     rw [List.take_succ_eq_append_getElem hlt, List.filter_append]
     simp [g]
    generalize hfs : (t.edges.take k).filter (fun e => e.src == s) = fs at *
    have HFS := Lib.hid hfs
    clear hfs
    go_wp2_with (at_builtin; refine wpList_append_own _ rfl _ _ 25 rfl w.heap.size 47 i0 (.agg #[.int .i64 0, .int .i64 0, .int .i64 0]) 3 24 Tryz.underlying25 hi hz0 hz1 hz2 rfl (by decide) _ _ _ rfl (HOA.out.alloc _) ⟨wr.heap.size + 1, 0, none⟩ 1 1 (encE t.edges[k]) rfl rfl ?c1 ?c2 ?c3 ?c4 ?c5 ?_)
    case c1 => have := three_new (wr.alloc (.cells #[.int .i64 t.edges[k].src, .int .i64 t.edges[k].lab, .int .i64 t.edges[k].dst] 47)) t.edges[k] 47; simpa using this
    case c2 => intro u hu; simp [encE] at hu; rcases hu with rfl | rfl | rfl <;> rfl
    case c3 => simp [maxLen]; omega
    case c4 => omega
    case c5 => simp; omega
    intro v' w1 ho1 hg1 _
    have HO2 : Hid (w1.ownsRow w.heap.size 47 3 v' (fs ++ [t.edges[k]]).length ((fs ++ [t.edges[k]]).flatMap encE)) := by
     unfold Hid
     rw [List.length_append, List.flatMap_append, List.flatMap_singleton]
     exact ho1
    have HB2 : Hid (Below w.heap.size w w1) := (HBA.out.alloc (by simp; omega) _).grown hg1 (by simp; omega) (fun b e => (HO.out.lt b e).1)
    clear ho1 hg1
    go_wp2_with fail
    go_roundw
    case rel => exact ⟨k + 1, by omega, by go_num, HB2.out, by rw [HL.out]; exact HO2.out⟩
    case measure => simp [intOf]; omega
  ·clear hrow
   go_wp2_with fail
   go_ret
   obtain rfl : k = t.edges.length := by omega
   exact ⟨_, rfl, HBL.out, by unfold outOf; have := HO.out; rw [List.take_length] at this; exact this⟩

end Go.Proofs.YtnmkncioekdehaaGreatDoor

namespace Go.Proofs.YtnmkncioekdehaaGreatDoor
open Go Go.RowKit

theorem CloneS_own (lo : Nat) (v : Value) (xs : List ByteArray) (w : World) (hv : SliceK 1 encS lo w v xs) (hz : xs.length ≤ 1048576) :
  Calls Tryz.prog 47 #[v] w fun e w' => ∃ v', e = .returned v' ∧ w'.ownsRow w.heap.size 9 1 v' xs.length (xs.map Value.string) ∧ Below w.heap.size w w' := by
 obtain ⟨a, c, rfl, hn, hc, hrow⟩ := hv
 cases a with
 | none =>
  have h0 : xs.length = 0 := by
   rcases hrow with h | ⟨b, o, h, -⟩
   ·exact h
   ·cases h
  have hx : xs = [] := List.eq_nil_of_length_eq_zero h0
  subst hx
  refine (Tryz.slices_Clone_string_nil _ _ w).mono ?_
  rintro e w' ⟨rfl, rfl⟩
  exact ⟨_, rfl, World.ownsRow_nil _ _ _ _, Below.refl _ _⟩
 | some a =>
  rcases hrow with h0 | ⟨b, o, h, -, hb, hcell⟩
  ·have hx : xs = [] := List.eq_nil_of_length_eq_zero h0
   subst hx
   refine (Tryz.slices_Clone_string_zero a c w).mono ?_
   rintro e w' ⟨v', rfl, ho, -, hb⟩
   exact ⟨v', rfl, ho, hb⟩
  ·cases h
   refine (Tryz.slices_Clone_string b o xs.length c xs w (Nat.le_refl _) (by omega) (fun j hj => ?_)).mono ?_
   ·have := hcell j hj 0 (by omega)
    rw [List.getD_eq_getElem?_getD, List.getElem?_eq_getElem hj]
    simpa [encS] using this
   ·rintro e w' ⟨v', rfl, ho, -, hb2⟩
    rw [List.take_length] at ho
    exact ⟨v', rfl, ho, hb2⟩

end Go.Proofs.YtnmkncioekdehaaGreatDoor

namespace Go.Proofs.YtnmkncioekdehaaGreatDoor
open Go Go.RowKit


theorem info_strI : (Tryz.prog.info? 9).map (fun i => (i.zero, i.size, i.bytes)) = some (some (.string ⟨#[]⟩), 1, 16) := by kernel_rfl
def MadeTxI (xs : List ByteArray) (w : World) (e : Ending) (w' : World) : Prop := ∃ v, e = .returned v ∧ Below w.heap.size w w' ∧ OwnStrs w.heap.size w' v xs

set_option maxRecDepth 100000 in
set_option maxHeartbeats 4000000 in
theorem readyLabels_any (lo : Nat) (t : Lts) (lv ev : Value) (s : Int) (w : World) (hv : Valid t) (hl : SliceK 1 encS lo w lv t.labels) (he : SliceK 3 encE lo w ev t.edges) :
  Calls Tryz.prog 42 #[.agg #[.int .i64 t.states, .int .i64 t.initial, lv, ev], .int .i64 s] w (MadeTxI (rdy t s) w) := by
 obtain ⟨tb, htb⟩ : ∃ tb, tb = w.heap.size := ⟨_, rfl⟩
 obtain ⟨wA, hwA⟩ : ∃ wA, wA = w.alloc (.cells #[.int .i64 t.states, .int .i64 t.initial, lv, ev] 27) := ⟨_, rfl⟩
 have hbA : Below w.heap.size w wA := by rw [hwA]; exact (Below.refl _ _).alloc (Nat.le_refl _) _
 have hT : Blk wA tb [.int .i64 t.states, .int .i64 t.initial, lv, ev] 27 := by rw [hwA, htb]; exact Blk.new w _ _
 have HO := Lib.hid (out_any lo t lv ev s wA (by have := hv.most; omega) (he.below hbA))
 have HV := Lib.hid hv
 have HT := Lib.hid hT
 obtain ⟨al, cl, rfl, hlc, -, hlrow⟩ := hl.below hbA
 have hL1 := hv.labels.pos
 obtain ⟨bl, ol, rfl, hblw, hcl⟩ : ∃ bl ol, al = some ⟨bl, ol, none⟩ ∧ bl < wA.heap.size ∧ ∀ i (h : i < t.labels.length), wA.cell? ⟨bl, ol + i, none⟩ = some (.string t.labels[i]) := by
  rcases hlrow with h | ⟨bl, ol, h1, -, h3, h4⟩
  ·omega
  ·exact ⟨bl, ol, h1, h3, fun i hi => by have := h4 i hi 0 (by omega); simpa [encS] using this⟩
 obtain ⟨LN, hLN⟩ : ∃ LN, LN = t.labels.length := ⟨_, rfl⟩
 rw [← hLN] at HT HO hwA hlc hL1 ⊢
 have HLN := Lib.hid hLN
 have HCL := Lib.hid hcl
 have HBA := Lib.hid hbA
 have HWA := Lib.hid hwA
 have HTB := Lib.hid htb
 have htl : tb < wA.heap.size := hT.lt
 obtain ⟨i3, hi3, hz30, hz31, hz32⟩ := info_parts info_strI
 clear hv hl he hwA hbA hT htb hLN hcl hlrow
 go_enter Tryz.func42, Tryz.ntmps42
 go_wp2_with fail
 rw [← HWA.out]
 try rw [← HTB.out]
 refine Calls.mono HO.out ?_
 rintro e w1 ⟨v1, rfl, hb1, ho1⟩
 obtain ⟨oa, oc, rfl, -, -⟩ := owns_slice ho1
 have hom : (outOf t s).length ≤ 300 := Nat.le_trans (List.length_filter_le _ _) HV.out.most
 have hsE : SliceK 3 encE wA.heap.size w1 (.slice oa (outOf t s).length oc) (outOf t s) := SliceK.of_owns (enc := encE) (e := 47) encE_len rfl ho1
 obtain ⟨a9, c9, h9, -, -, hrowE⟩ := hsE
 simp only [Value.slice.injEq] at h9
 obtain ⟨rfl, -, rfl⟩ := h9
 obtain ⟨os, hos⟩ : ∃ os, os = outOf t s := ⟨_, rfl⟩
 have HOK : Hid (∀ e ∈ os, EdgeOk t e) := by unfold Hid; rw [hos]; exact outOf_ok HV.out s
 rw [← hos] at hrowE hom ⊢
 obtain ⟨ON, hON⟩ : ∃ ON, ON = os.length := ⟨_, rfl⟩
 rw [← hON] at hom ⊢
 have HROW := Lib.hid hrowE
 have HON := Lib.hid hON
 have HOS := Lib.hid hos
 have HB1 := Lib.hid hb1
 have hs1 := hb1.size
 clear hb1 ho1 hrowE hON hos HO
 go_wp2
 go_loopw [5, 12] (fun v5 v12 wr => ∃ k : Nat, k ≤ ON ∧ v12 = .int .i64 k ∧ Below w1.heap.size w1 wr ∧ wr.ownsRow w1.heap.size 9 1 v5 k (((os.take k).map (labAt t)).map Value.string)) (fun _ v12 _ => ON - (intOf v12).toNat)
 case atStart => exact ⟨0, Nat.zero_le _, rfl, Below.refl _ _, ⟨rfl, .inl ⟨rfl, rfl⟩⟩⟩
 case round =>
  obtain ⟨k, hk, rfl, hbl, ho⟩ := hrel
  have HBL := Lib.hid hbl
  have HOW := Lib.hid ho
  have hsz := hbl.size
  obtain ⟨va, vc, hv5, -, -⟩ := owns_slice ho
  subst hv5
  by_cases hlt : k < ON
  ·have hlt2 : k < os.length := by rw [← HON.out]; exact hlt
   obtain ⟨be, oe, rfl, -, hbe, e1, e2, e3⟩ := (HROW.out.below hbl).edge hlt2
   have hok := HOK.out _ (List.getElem_mem hlt2)
   have HNX : Hid (((os.take (k + 1)).map (labAt t)).map Value.string = ((os.take k).map (labAt t)).map Value.string ++ [.string (labAt t os[k])]) := by
    unfold Hid
    rw [List.take_succ_eq_append_getElem hlt2, List.map_append, List.map_append]
    rfl
   obtain ⟨l, hl⟩ : ∃ l, l = labAt t os[k] := ⟨_, rfl⟩
   rw [← hl] at HNX
   obtain ⟨ts, hts⟩ : ∃ ts, ts = ((os.take k).map (labAt t)).map Value.string := ⟨_, rfl⟩
   rw [← hts] at HNX ho
   obtain ⟨x, hx⟩ : ∃ x, x = os[k] := ⟨_, rfl⟩
   rw [← hx] at e1 e2 e3 hl hok
   obtain ⟨m, hm⟩ : ∃ m : Nat, (m : Int) = x.lab := ⟨x.lab.toNat, by have := hok.l0; omega⟩
   have hmt : x.lab.toNat = m := by omega
   have hmL2 : m < t.labels.length := by have := hok.l1; omega
   have hmL : m < LN := by have := HLN.out; omega
   have hlm : l = t.labels[m] := by
    rw [hl]
    unfold labAt
    rw [hmt, List.getD_eq_getElem?_getD, List.getElem?_eq_getElem hmL2]
    rfl
   have hcm : wA.cell? ⟨bl, ol + m, none⟩ = some (.string l) := by rw [hlm]; exact HCL.out m hmL2
   rw [← hm] at e2
   obtain ⟨xs, hxs⟩ : ∃ xs, xs = x.src := ⟨_, rfl⟩
   obtain ⟨xd, hxd⟩ : ∃ xd, xd = x.dst := ⟨_, rfl⟩
   rw [← hxs] at e1
   rw [← hxd] at e3
   have hbAr : Below wA.heap.size wA wr := HB1.out.trans (hbl.mono hs1)
   obtain ⟨wD, hwD⟩ : ∃ wD, wD = wr.alloc (.cells #[.int .i64 xs, .int .i64 m, .int .i64 xd] 47) := ⟨_, rfl⟩
   have hbD : Below wA.heap.size wA wD := by rw [hwD]; exact hbAr.alloc (by have := hbAr.size; omega) _
   have t2 := keeps hbD htl (HT.out.cell 2 rfl)
   have cm := keeps hbD hblw hcm
   have HD1 : Hid (Below w1.heap.size w1 (wr.alloc (.cells #[.int .i64 xs, .int .i64 m, .int .i64 xd] 47))) := hbl.alloc hsz _
   have HOD : Hid ((wr.alloc (.cells #[.int .i64 xs, .int .i64 m, .int .i64 xd] 47)).ownsRow w1.heap.size 9 1 (.slice va k vc) k ts) := ho.alloc _
   rw [hwD] at t2 cm
   have htlr : tb < wr.heap.size := by have := hbAr.size; omega
   have hblr : bl < wr.heap.size := by have := hbAr.size; omega
   clear hts HOW
   clear hbl ho hok hl hlm hx hm hmt hmL2 hcm hxs hxd hbAr hwD hbD
   go_wp2_with (at_builtin; refine wpList_append_own _ rfl _ _ 24 rfl w1.heap.size 9 i3 (.string ⟨#[]⟩) 1 16 Tryz.underlying24 hi3 hz30 hz31 hz32 rfl (by decide) _ k _ rfl (HOD.out.alloc _) ⟨wr.heap.size + 1, 0, none⟩ 1 1 [.string l] rfl rfl ?c1 ?c2 ?c3 ?c4 ?c5 ?_)
   case c1 => exact World.news_of_block (cs := #[.string l]) (t := 9) (fr := (0, 0)) (by have h := heap_alloc_new (wr.alloc (.cells #[.int .i64 xs, .int .i64 m, .int .i64 xd] 47)) (.cells #[.string l] 9); rw [World.size_alloc] at h; exact h)
   case c2 => intro u hu; simp at hu; subst hu; rfl
   case c3 => simp [maxLen]; omega
   case c4 => omega
   case c5 => simp; omega
   intro v7 w7 ho7 hg7 _
   have HB7 : Hid (Below w1.heap.size w1 w7) := (HD1.out.alloc HD1.out.size _).grown hg7 (by simp; omega) (fun b e => (HOD.out.lt b e).1)
   have HO7 : Hid (w7.ownsRow w1.heap.size 9 1 v7 (k + 1) (((os.take (k + 1)).map (labAt t)).map Value.string)) := by unfold Hid; rw [HNX.out]; exact ho7
   clear ho7 hg7 t2 cm
   go_wp2
   go_roundw
   case rel => exact ⟨k + 1, by omega, by go_num, HB7.out, HO7.out⟩
   case measure => simp [intOf]; omega
  ·obtain rfl : k = ON := by omega
   have hall : os.take k = os := List.take_of_length_le (by have := HON.out; omega)
   rw [hall] at HOW
   have hln : (os.map (labAt t)).length = k := by rw [List.length_map]; exact HON.out.symm
   have HS1 := Lib.hid (SortL_own w1.heap.size (.slice va k vc) (os.map (labAt t)) wr (by rw [hln]; exact HOW.out) (by omega))
   have HBWr := Lib.hid (HB1.out.trans (hbl.mono hs1))
   have HLN2 := Lib.hid hln
   clear hbl ho hall hln
   go_wp2_with fail
   refine Calls.mono HS1.out ?_
   rintro e w8 ⟨rfl, ho8, hg8⟩
   have HB8 := Lib.hid (HBWr.out.grown hg8 (by exact HBWr.out.size) (fun b e => by have := (HOW.out.lt b e).1; omega))
   have HC8 := Lib.hid (CompactL_own w1.heap.size (.slice va k vc) (os.map (labAt t)) w8 ho8)
   have HLT := Lib.hid (fun b e => (ho8.lt b e).1)
   clear ho8 hg8 HS1
   go_wp2_with fail
   refine Calls.mono HC8.out ?_
   rintro e w9 ⟨v9, rfl, ho9, hg9⟩
   have HB9 := Lib.hid (HB8.out.grown hg9 HB8.out.size (fun b e => by have := HLT.out b e; omega))
   have HO9 := Lib.hid ho9
   clear ho9 hg9 HC8
   go_wp2_with fail
   go_ret
   refine ⟨_, rfl, HBA.out.trans (HB9.out.mono HBA.out.size), ?_⟩
   have h := own_lower HO9.out (Nat.le_trans HBA.out.size hs1)
   rw [HOS.out] at h
   exact h

end Go.Proofs.YtnmkncioekdehaaGreatDoor

namespace Go.Proofs.YtnmkncioekdehaaGreatDoor
open Go Go.RowKit

/-- The name of a label. -/
theorem LabelName_any (s : ByteArray) (w : World) (hs : s.size ≤ 1048576) (hl : labelOk s.data.toList = true) (g : Glob w) :
  Calls Tryz.prog 38 #[.string s] w fun e w' => e = .returned (.string ⟨(labName s).toArray⟩) ∧ Below w.heap.size w w' := by
 have G := Lib.hid g
 have HN : Hid ((Lib.cut s.data.toList [40]).1 = labName s) := by
  unfold Hid labName
  rw [cut_eq]
  split
  ·rfl
  ·next h => rw [List.take_of_length_le (by omega)]
 have HOK : Hid (readOk s.data.toList = true) := by unfold Hid; rw [readOk_eq]; exact hl
 clear g hl
 go_enter Tryz.func38, Tryz.ntmps38
 go_wp2_with fail
 refine (readLabel_any _ _ hs G.out).mono ?_
 rintro e w' ⟨n, v, rfl, hb, hn⟩
 have HB := Lib.hid hb
 have HNV := Lib.hid (hn HOK.out)
 clear hb hn
 go_wp2_with fail
 go_ret
 exact ⟨by rw [HNV.out, HN.out]; rfl, HB.out⟩

end Go.Proofs.YtnmkncioekdehaaGreatDoor

namespace Go.Proofs.YtnmkncioekdehaaGreatDoor
open Go Go.RowKit


theorem ContainsFuncS (lo : Nat) (v : Value) (xs : List ByteArray) (fid : Nat) (caps : Array Value) (P : ByteArray → Bool) (w : World) (hv : SliceK 1 encS lo w v xs) (eg : ∀ args w, (callFunc fid args).run Tryz.prog w = .ok (.enter fid args) w) (hP : AskS fid caps P xs w.heap.size w) :
  Calls Tryz.prog 36 #[v, .func (.func fid) #[] caps] w fun e w' => e = .returned (.bool (xs.any P)) ∧ Below w.heap.size w w' := by
 have HC := Lib.hid (IndexFuncS lo v xs fid caps P w hv eg hP)
 clear hP
 go_enter Tryz.func36, Tryz.ntmps36
 go_wp2_with fail
 refine Calls.mono HC.out ?_
 rintro e w' ⟨rfl, hb⟩
 have HB := Lib.hid hb
 clear hb
 go_wp2_with fail
 go_ret
 exact ⟨ret_bool idxS_any, HB.out⟩

theorem info_intU : (Tryz.prog.info? 2).map (fun i => (i.zero, i.size, i.bytes)) = some (some (.int .i64 0), 1, 8) := by kernel_rfl
set_option maxRecDepth 100000 in
set_option maxHeartbeats 1000000 in
theorem upTo_any (N : Nat) (w : World) (hN : N ≤ 1000) : Calls Tryz.prog 40 #[.int .i64 N] w (MadeNums (upI N) w) := by
 obtain ⟨i1, hi1, hz10, hz11, hz12⟩ := info_parts info_intU
 go_enter Tryz.func40, Tryz.ntmps40
 go_wp2
 go_loopw [3, 6] (fun v3 v6 wr => ∃ k : Nat, k ≤ N ∧ v6 = .int .i64 k ∧ Below w.heap.size w wr ∧ wr.ownsRow w.heap.size 2 1 v3 k ((upI k).map (Value.int .i64))) (fun _ v6 _ => N - (intOf v6).toNat)
 case atStart => exact ⟨0, Nat.zero_le _, rfl, Below.refl _ _, World.ownsRow_nil _ _ _ _⟩
 case round =>
  obtain ⟨k, hk, rfl, hbl, ho⟩ := hrel
  have HBL := Lib.hid hbl
  have HO := Lib.hid ho
  have hsz := hbl.size
  obtain ⟨va, vc, rfl, -, -⟩ := owns_slice ho
  by_cases hlt : k < N
  ·have HNX : Hid ((upI (k + 1)).map (Value.int .i64) = (upI k).map (Value.int .i64) ++ [.int .i64 k]) := by unfold Hid; rw [upI_succ, List.map_append]; rfl
   clear hbl ho
   go_wp2_with (at_builtin; refine wpList_append_own _ rfl _ _ 30 rfl w.heap.size 2 i1 (.int .i64 0) 1 8 Tryz.underlying30 hi1 hz10 hz11 hz12 rfl (by decide) _ k _ rfl (HO.out.alloc _) ⟨wr.heap.size, 0, none⟩ 1 1 [.int .i64 k] rfl rfl ?c1 ?c2 ?c3 ?c4 ?c5 ?_)
   case c1 => exact World.news_of_block (cs := #[.int .i64 k]) (t := 2) (fr := (0, 0)) (heap_alloc_new _ _)
   case c2 => intro u hu; simp at hu; subst hu; rfl
   case c3 => simp [maxLen]; omega
   case c4 => omega
   case c5 => first | omega | (simp; omega)
   intro v7 w7 ho7 hg7 _
   have HB7 : Hid (Below w.heap.size w w7) := (HBL.out.alloc hsz _).grown hg7 (by simp; omega) (fun b e => (HO.out.lt b e).1)
   have HO7 : Hid (w7.ownsRow w.heap.size 2 1 v7 (k + 1) ((upI (k + 1)).map (Value.int .i64))) := by unfold Hid; rw [HNX.out]; exact ho7
   clear ho7 hg7
   go_wp2
   go_roundw
   case rel => exact ⟨k + 1, by omega, by go_num, HB7.out, HO7.out⟩
   case measure => simp [intOf]; omega
  ·obtain rfl : k = N := by omega
   clear hbl ho
   go_wp2
   go_ret
   exact ⟨_, rfl, HBL.out, by rw [upI_len]; exact HO.out⟩

set_option maxRecDepth 100000 in
theorem acts1_any (s : ByteArray) (w : World) (hs : s.size ≤ 1073741824) : Calls Tryz.prog 89 #[.string s] w fun e w' => e = .returned (.bool (!isAction s.data.toList)) ∧ Below w.heap.size w w' := by
 have HC := Lib.hid (IsAction_any s w hs)
 go_enter Tryz.func89, Tryz.ntmps89
 go_wp2_with fail
 refine Calls.mono HC.out ?_
 rintro e w' ⟨rfl, rfl⟩
 go_wp2
 go_ret
 exact ⟨rfl, Below.refl _ _⟩
set_option maxRecDepth 100000 in
theorem areActions_any (lo : Nat) (v : Value) (ss : List ByteArray) (w : World) (hsh : Short20 ss) (hv : SliceK 1 encS lo w v ss) : Calls Tryz.prog 67 #[v] w fun e w' => e = .returned (.bool (!ss.any fun s => !isAction s.data.toList)) ∧ Below w.heap.size w w' := by
 have HC := Lib.hid (ContainsFuncS lo v ss 89 #[] (fun s => !isAction s.data.toList) w hv (fun args w => by kernel_rfl) fun w' _ x hx => acts1_any x w' (by obtain ⟨i, hi, rfl⟩ := List.mem_iff_getElem.1 hx; exact Nat.le_trans (hsh i hi) (by decide)))
 clear hsh hv
 go_enter Tryz.func67, Tryz.ntmps67
 go_wp2_with fail
 refine Calls.mono HC.out ?_
 rintro e w' ⟨rfl, hb⟩
 have HB := Lib.hid hb
 clear hb
 go_wp2
 go_ret
 exact ⟨rfl, HB.out⟩
/-- Names of actions, strictly increasing. -/
def NamesUp (ss : List ByteArray) : Prop := (∀ i (h : i < ss.length), isAction ss[i].data.toList = true) ∧ ∀ i (h : i + 1 < ss.length), strLess ss[i] ss[i + 1] = true

set_option maxRecDepth 100000 in
set_option maxHeartbeats 2000000 in
theorem namesIncrease_any (lo : Nat) (v : Value) (ss : List ByteArray) (w : World) (hsh : Short20 ss) (hv : SliceK 1 encS lo w v ss) : Calls Tryz.prog 35 #[v] w (Decides (NamesUp ss) w) := by
 have HV := Lib.hid hv
 obtain ⟨a, cap, rfl, hn, hcap, hrow⟩ := hv
 have HSH := Lib.hid hsh
 have HROW := Lib.hid hrow
 clear hsh hrow
 go_enter Tryz.func35, Tryz.ntmps35
 go_wp2
 go_loopw [7] (fun i wr => ∃ k : Nat, k ≤ ss.length ∧ i = .int .i64 k ∧ Below w.heap.size w wr ∧ (∀ j (h : j + 1 < ss.length), j + 1 < k → strLess ss[j] ss[j + 1] = true)) (fun i _ => ss.length - (intOf i).toNat)
 case atStart => exact ⟨0, Nat.zero_le _, rfl, Below.refl _ _, fun _ _ h => by omega⟩
 case round =>
  obtain ⟨k, hk, rfl, hbl, hx2⟩ := hrel
  have HBL := Lib.hid hbl
  have HRR := Lib.hid (HROW.out.below hbl)
  have HX2 := Lib.hid hx2
  have hsz9 := hbl.size
  clear hx2
  by_cases hlt : k < ss.length
  ·obtain ⟨b, o, rfl, -, hb, c⟩ := HRR.out.one hlt
   simp only [encS, List.getElem?_cons_zero] at c
   obtain ⟨x, hx⟩ : ∃ x, x = ss[k] := ⟨_, rfl⟩
   rw [← hx] at c
   have HX := Lib.hid hx
   clear hx hbl
   rcases Nat.eq_zero_or_pos k with hk0 | hk0
   ·have hk1 : decide ((0 : Int) < (k : Int)) = false := by rw [decide_eq_false_iff_not]; omega
    have hk3 : ¬ (0 : Int) < (k : Int) := by omega
    have hk4 : ¬ 0 < k := by omega
    have HK : Hid (k = 0) := hk0
    clear hk0
    go_wp2
    go_roundw
    case rel => exact ⟨k + 1, by omega, by go_num, HBL.out, fun j h h' => by have := HK.out; omega⟩
    case measure => simp [intOf]; omega
   ·obtain ⟨m, rfl⟩ : ∃ m, k = m + 1 := ⟨k - 1, by omega⟩
    clear hk0
    obtain ⟨_, _, e9, -, -, c2⟩ := HRR.out.one (show m < ss.length by omega)
    simp only [Option.some.injEq, Addr.mk.injEq, and_true] at e9
    obtain ⟨rfl, rfl⟩ := e9
    simp only [encS, List.getElem?_cons_zero] at c2
    obtain ⟨y, hy⟩ : ∃ y, y = ss[m] := ⟨_, rfl⟩
    rw [← hy] at c2
    have HY := Lib.hid hy
    clear hy
    have hk1 : decide ((0 : Int) < (m : Int) + 1) = true := by rw [decide_eq_true_eq]; omega
    have hk2 : (0 : Int) < (m : Int) + 1 := by omega
    cases h3 : Op.bytesLess y.toList x.toList
    ·have h4 : (Op.bytesLess x.toList y.toList || x.toList == y.toList) = true := by rw [less_leq, h3]; rfl
     have H3 := Lib.hid h3
     clear h3
     go_wp2
     go_ret
     refine ⟨false, rfl, ⟨(fun h => by cases h), fun h => ?_⟩, HBL.out⟩
     have h5 := h.2 m hlt
     unfold strLess at h5
     rw [← HX.out, ← HY.out, H3.out] at h5
     cases h5
    ·have h4 : (Op.bytesLess x.toList y.toList || x.toList == y.toList) = false := by rw [less_leq, h3]; rfl
     have H3 := Lib.hid h3
     clear h3
     go_wp2
     go_roundw
     case rel => exact ⟨m + 1 + 1, by omega, by go_num, HBL.out, fun j h h' => by
       by_cases e : j = m
       ·subst e; unfold strLess; rw [← HX.out, ← HY.out]; exact H3.out
       ·exact HX2.out j h (by omega)⟩
     case measure => simp [intOf]; omega
  ·have HAC := Lib.hid (areActions_any lo _ ss wr HSH.out (HV.out.below hbl))
   have HUP : Hid (∀ i (h : i + 1 < ss.length), strLess ss[i] ss[i + 1] = true) := fun i h => HX2.out i h (by omega)
   clear hbl
   go_wp2_with fail
   refine Calls.mono HAC.out ?_
   rintro e w1 ⟨rfl, hb1⟩
   have HB1 := Lib.hid (HBL.out.trans (hb1.mono hsz9))
   clear hb1 HAC
   go_wp2
   go_ret
   refine ⟨_, rfl, ?_, HB1.out⟩
   rw [Bool.not_eq_true', List.any_eq_false]
   constructor
   ·intro h
    exact ⟨fun i hi => by have := h _ (List.getElem_mem hi); simpa using this, HUP.out⟩
   ·rintro ⟨h, -⟩ x hx
    obtain ⟨i, hi, rfl⟩ := List.mem_iff_getElem.1 hx
    rw [h i hi]
    simp

theorem name_bytes (l : ByteArray) : (⟨(labName l).toArray⟩ : ByteArray).toList = labName l := by rw [Lib.toList_data]
set_option maxRecDepth 100000 in
theorem isInput_any (lo : Nat) (v : Value) (ins : List ByteArray) (l : ByteArray) (w : World) (hv : SliceK 1 encS lo w v ins) (hs : l.size ≤ 1048576) (hl : labelOk l.data.toList = true) (g : Glob w) :
  Calls Tryz.prog 44 #[v, .string l] w fun e w' => e = .returned (.bool (!outB ins l)) ∧ Below w.heap.size w w' := by
 have HN := Lib.hid (LabelName_any l w hs hl g)
 have HV := Lib.hid hv
 have HO : Hid ((ins.any fun y => y.toList == (⟨(labName l).toArray⟩ : ByteArray).toList) = !outB ins l) := by unfold Hid outB; rw [name_bytes, Bool.not_not]
 obtain ⟨nm, hnm⟩ : ∃ nm : ByteArray, nm = ⟨(labName l).toArray⟩ := ⟨_, rfl⟩
 rw [← hnm] at HN HO
 clear hv g hnm
 go_enter Tryz.func44, Tryz.ntmps44
 go_wp2_with fail
 refine Calls.mono HN.out ?_
 rintro e w1 ⟨rfl, hb1⟩
 have HB1 := Lib.hid hb1
 have HC := Lib.hid (Contains_strs lo v nm ins w1 (HV.out.below hb1))
 rw [HO.out] at HC
 clear hb1 HN
 go_wp2_with fail
 refine Calls.mono HC.out ?_
 rintro e w2 ⟨rfl, rfl⟩
 go_wp2
 go_ret
 exact ⟨rfl, HB1.out⟩

end Go.Proofs.YtnmkncioekdehaaGreatDoor

namespace Go.Proofs.YtnmkncioekdehaaGreatDoor
open Go Go.RowKit


theorem lab_ok {t : Lts} (hv : Valid t) : ∀ l ∈ t.labels, labelOk l.data.toList = true := by
 intro l hl
 obtain ⟨i, hi, rfl⟩ := List.mem_iff_getElem.1 hl
 by_cases h0 : i = 0
 ·subst h0
  have h := hv.labels.first hi
  rw [Lib.toList_data] at h
  rw [h]
  decide
 ·exact hv.labels.label i hi (by omega)
theorem short_mem {ss : List ByteArray} (h : Short20 ss) : ∀ s ∈ ss, s.size ≤ 1048576 := by
 intro s hs
 obtain ⟨i, hi, rfl⟩ := List.mem_iff_getElem.1 hs
 exact h i hi
theorem rdy_mem {t : Lts} (hv : Valid t) {k : Int} : ∀ l ∈ rdy t k, l ∈ t.labels := by
 intro l hl
 unfold rdy at hl
 rw [(labSet_is _).2, List.mem_map] at hl
 obtain ⟨e, he, rfl⟩ := hl
 exact lab_mem hv (List.mem_filter.1 he).1
/-- Names of actions are no tau. -/
theorem tau_out {ins : List ByteArray} (h : ∀ i (h : i < ins.length), isAction ins[i].data.toList = true) : outB ins tauT = true := by
 unfold outB
 rw [Bool.not_eq_true', List.any_eq_false]
 intro s hs hh
 obtain ⟨i, hi, rfl⟩ := List.mem_iff_getElem.1 hs
 have h1 := h i hi
 rw [beq_iff_eq, Lib.toList_data] at hh
 rw [hh, show labName tauT = tauL from by unfold labName; decide, isAction_tau] at h1
 cases h1
theorem quiet_rdy {t : Lts} {ins : List ByteArray} (h : IfOk t ins) (k : Int) : quietB t ins k = !(rdy t k).any (outB ins) := by
 have hv := h.valid
 rw [Bool.eq_iff_iff, Bool.not_eq_true', List.any_eq_false]
 unfold quietB
 rw [List.all_eq_true]
 constructor
 ·intro hq l hl
  unfold rdy at hl
  rw [(labSet_is _).2, List.mem_map] at hl
  obtain ⟨e, he, rfl⟩ := hl
  unfold outOf at he
  obtain ⟨h1, h2⟩ := List.mem_filter.1 he
  have := hq e h1
  rw [h2] at this
  simp at this
  simp [this.2]
 ·intro hq e he
  by_cases hs : (e.src == k) = true
  ·have h1 : outB ins (labAt t e) = false := by
    rw [Bool.eq_false_iff]
    refine hq _ ?_
    unfold rdy
    rw [(labSet_is _).2, List.mem_map]
    exact ⟨e, List.mem_filter.2 ⟨he, hs⟩, rfl⟩
   have h2 : (e.lab == 0) = false := by
    rw [beq_eq_false_iff_ne]
    intro h0
    rw [(lab_tau hv he).2 h0, tau_out h.acts] at h1
    cases h1
   rw [h1, h2]
   simp
  ·simp [Bool.eq_false_iff.2 hs]
theorem quiets_del {t : Lts} {ins : List ByteArray} (h : IfOk t ins) : ((upI t.states.toNat).filter fun k => !(rdy t k).any (outB ins)) = quiets t ins := by
 unfold quiets
 congr 1
 funext k
 exact (quiet_rdy h k).symm

set_option maxRecDepth 100000 in
theorem qui11_any (lo bi : Nat) (v : Value) (ins : List ByteArray) (l : ByteArray) (w : World) (hc : w.cell? ⟨bi, 0, none⟩ = some v) (hv : SliceK 1 encS lo w v ins) (hs : l.size ≤ 1048576) (hl : labelOk l.data.toList = true) (g : Glob w) :
  Calls Tryz.prog 43 #[.string l, .pointer (some ⟨bi, 0, none⟩)] w fun e w' => e = .returned (.bool (outB ins l)) ∧ Below w.heap.size w w' := by
 obtain ⟨a, c, hv2, -⟩ := id hv
 have HI := Lib.hid (isInput_any lo v ins l w hv hs hl g)
 rw [hv2] at hc HI
 clear hv g hs hl hv2
 obtain ⟨n, hn⟩ : ∃ n, n = ins.length := ⟨_, rfl⟩
 rw [← hn] at hc HI
 clear hn
 go_enter Tryz.func43, Tryz.ntmps43
 go_wp2_with fail
 refine Calls.mono HI.out ?_
 rintro e w1 ⟨rfl, hb1⟩
 have HB1 := Lib.hid hb1
 clear hb1 HI
 go_wp2
 go_ret
 exact ⟨ret_bool (by simp), HB1.out⟩

set_option maxRecDepth 100000 in
theorem qui1_any (lo tb bi : Nat) (t : Lts) (lv ev v : Value) (ins : List ByteArray) (k : Int) (w : World) (hv : Valid t) (hT : Blk w tb [.int .i64 t.states, .int .i64 t.initial, lv, ev] 27) (hI : w.cell? ⟨bi, 0, none⟩ = some v) (hbi : bi < w.heap.size)
  (hl : SliceK 1 encS lo w lv t.labels) (he : SliceK 3 encE lo w ev t.edges) (hi : SliceK 1 encS lo w v ins) (hsh : Short20 t.labels) (g : Glob w) :
  Calls Tryz.prog 41 #[.int .i64 k, .pointer (some ⟨tb, 0, none⟩), .pointer (some ⟨bi, 0, none⟩)] w fun e w' => e = .returned (.bool ((rdy t k).any (outB ins))) ∧ Below w.heap.size w w' := by
 have HR := Lib.hid (readyLabels_any lo t lv ev k w hv hl he)
 have HQ : Hid (∀ w', Below w.heap.size w w' → ∀ v2, OwnStrs w.heap.size w' v2 (rdy t k) → Calls Tryz.prog 36 #[v2, .func (.func 43) #[] #[.pointer (some ⟨bi, 0, none⟩)]] w' fun e w'' => e = .returned (.bool ((rdy t k).any (outB ins))) ∧ Below w'.heap.size w' w'') := fun w' hb v2 ho =>
  ContainsFuncS w.heap.size v2 (rdy t k) 43 #[.pointer (some ⟨bi, 0, none⟩)] (outB ins) w' (SliceK.of_owns (e := 9) encS_len rfl (by rw [flat_encS]; exact ho)) (fun args w => by kernel_rfl)
   fun w2 hb2 x hx => qui11_any lo bi v ins x w2 (keeps (hb.trans (hb2.mono hb.size)) hbi hI) (hi.below (hb.trans (hb2.mono hb.size))) (short_mem hsh x (rdy_mem hv x hx)) (lab_ok hv x (rdy_mem hv x hx)) (g.below (hb.trans (hb2.mono hb.size)))
 have t0 := hT.cell 0 rfl
 have t1 := hT.cell 1 rfl
 have t2 := hT.cell 2 rfl
 have t3 := hT.cell 3 rfl
 clear hv hT hI hbi hl he hi hsh g
 go_enter Tryz.func41, Tryz.ntmps41
 go_wp2_with fail
 refine Calls.mono HR.out ?_
 rintro e w1 ⟨v2, rfl, hb1, ho1⟩
 have HB1 := Lib.hid hb1
 have HC := Lib.hid (HQ.out w1 hb1 v2 ho1)
 clear hb1 ho1 HR HQ t0 t1 t2 t3
 go_wp2_with fail
 refine Calls.mono HC.out ?_
 rintro e w2 ⟨rfl, hb2⟩
 have HB2 := Lib.hid (HB1.out.trans (hb2.mono HB1.out.size))
 clear hb2 HC
 go_wp2
 go_ret
 exact ⟨rfl, HB2.out⟩

set_option maxRecDepth 100000 in
set_option maxHeartbeats 1000000 in
theorem quiescent_any (lo : Nat) (t : Lts) (lv ev v : Value) (ins : List ByteArray) (w : World) (h : IfOk t ins) (hl : SliceK 1 encS lo w lv t.labels) (he : SliceK 3 encE lo w ev t.edges) (hi : SliceK 1 encS lo w v ins) (hsh : Short20 t.labels) (g : Glob w) :
  Calls Tryz.prog 18 #[.agg #[.int .i64 t.states, .int .i64 t.initial, lv, ev], v] w (MadeNums (quiets t ins) w) := by
 obtain ⟨tb, htb⟩ : ∃ tb, tb = w.heap.size := ⟨_, rfl⟩
 obtain ⟨ia, ic, hiv, -⟩ := id hi
 obtain ⟨wA, hwA⟩ : ∃ wA, wA = (w.alloc (.cells #[.int .i64 t.states, .int .i64 t.initial, lv, ev] 27)).alloc (.cells #[v] 24) := ⟨_, rfl⟩
 have hbA : Below w.heap.size w wA := by rw [hwA]; exact ((Below.refl _ _).alloc (Nat.le_refl _) _).alloc (by simp) _
 have hsA : wA.heap.size = tb + 1 + 1 := by rw [hwA, htb]; simp
 have hT : Blk wA tb [.int .i64 t.states, .int .i64 t.initial, lv, ev] 27 := by rw [hwA, htb]; exact (Blk.new w _ _).alloc _
 have hR : Blk wA (tb + 1) [v] 24 := by
  have := Blk.new (w.alloc (.cells #[.int .i64 t.states, .int .i64 t.initial, lv, ev] 27)) [v] 24
  rw [World.size_alloc, ← htb] at this
  rw [hwA]
  exact this
 have hP : AskI 41 #[.pointer (some ⟨tb, 0, none⟩), .pointer (some ⟨tb + 1, 0, none⟩)] (fun k => (rdy t k).any (outB ins)) (upI t.states.toNat) wA.heap.size wA := fun w' hb x _ =>
  qui1_any lo tb (tb + 1) t lv ev v ins x w' h.valid (hT.below hb) (keeps hb (by omega) (hR.cell 0 rfl)) (Nat.lt_of_lt_of_le (by omega) hb.size) ((hl.below hbA).below hb) ((he.below hbA).below hb) ((hi.below hbA).below hb) hsh ((g.below hbA).below hb)
 have HU : Hid (Calls Tryz.prog 40 #[.int .i64 t.states] wA (MadeNums (upI t.states.toNat) wA)) := by
  have := upTo_any t.states.toNat wA (by have := h.valid.st1; omega)
  rw [show ((t.states.toNat : Nat) : Int) = t.states from by have := h.valid.st0; omega] at this
  exact this
 have HD : Hid (∀ w1 nv, Below wA.heap.size wA w1 → w1.ownsRow wA.heap.size 2 1 nv (upI t.states.toNat).length ((upI t.states.toNat).map (Value.int .i64)) → Calls Tryz.prog 39 #[nv, .func (.func 41) #[] #[.pointer (some ⟨tb, 0, none⟩), .pointer (some ⟨tb + 1, 0, none⟩)]] w1 fun e w' => ∃ v', e = .returned v' ∧ Below wA.heap.size wA w' ∧ w'.ownsRow wA.heap.size 2 1 v' (quiets t ins).length ((quiets t ins).map (Value.int .i64))) := by
  intro w1 nv hb ho
  have := DeleteFuncI wA.heap.size nv (upI t.states.toNat) 41 #[.pointer (some ⟨tb, 0, none⟩), .pointer (some ⟨tb + 1, 0, none⟩)] (fun k => (rdy t k).any (outB ins)) wA w1 ho hb hb.size (fun args w => by kernel_rfl) hP
  rw [quiets_del h] at this
  exact this
 have t0 := hT.cell 0 rfl
 have HBA := Lib.hid hbA
 have HWA := Lib.hid hwA
 have HTB := Lib.hid htb
 subst hiv
 obtain ⟨n, hn⟩ : ∃ n, n = ins.length := ⟨_, rfl⟩
 rw [← hn] at HWA
 rw [← hn]
 rw [hwA, ← hn] at t0
 clear h hl he hi hsh g hbA hsA hT hR hP hn hwA htb
 go_enter Tryz.func18, Tryz.ntmps18
 go_wp2_with fail
 rw [← HWA.out]
 refine Calls.mono HU.out ?_
 rintro e w1 ⟨nv, rfl, hb1, ho1⟩
 have HC := Lib.hid (HD.out w1 nv hb1 ho1)
 clear hb1 ho1 HU HD t0
 rw [HTB.out] at HC
 go_wp2_with fail
 refine Calls.mono HC.out ?_
 rintro e w2 ⟨v2, rfl, hb2, ho2⟩
 have HB2 := Lib.hid hb2
 have HO2 := Lib.hid ho2
 clear hb2 ho2 HC
 go_wp2
 go_ret
 exact ⟨_, rfl, HBA.out.trans (HB2.out.mono HBA.out.size), own_lower HO2.out HBA.out.size⟩

end Go.Proofs.YtnmkncioekdehaaGreatDoor

namespace Go.Proofs.YtnmkncioekdehaaGreatDoor
open Go Go.RowKit

theorem Valid_yes {lo : Nat} {t : Lts} {lv ev : Value} {w : World} (hv : Valid t) (hsh : Short20 t.labels) (hl : SliceK 1 encS lo w lv t.labels) (he : SliceK 3 encE lo w ev t.edges) (g : Glob w) :
  Calls Tryz.prog 34 #[.agg #[.int .i64 t.states, .int .i64 t.initial, lv, ev]] w fun e w' => e = .returned (.bool true) ∧ Below w.heap.size w w' :=
 Decides.yes (ValidLts_any lo t lv ev w hsh hl he g) hv
theorem Valid_no {lo : Nat} {t : Lts} {lv ev : Value} {w : World} (hv : ¬ Valid t) (hsh : Short20 t.labels) (hl : SliceK 1 encS lo w lv t.labels) (he : SliceK 3 encE lo w ev t.edges) (g : Glob w) :
  Calls Tryz.prog 34 #[.agg #[.int .i64 t.states, .int .i64 t.initial, lv, ev]] w fun e w' => e = .returned (.bool false) ∧ Below w.heap.size w w' :=
 Decides.no (ValidLts_any lo t lv ev w hsh hl he g) hv

end Go.Proofs.YtnmkncioekdehaaGreatDoor

namespace Go.Proofs.YtnmkncioekdehaaGreatDoor
open Go Go.RowKit


set_option maxRecDepth 100000 in
theorem vi1_any (s : ByteArray) (w : World) (hs : s.size ≤ 1048576) (hl : labelOk s.data.toList = true) (g : Glob w) :
  Calls Tryz.prog 37 #[.string s] w fun e w' => e = .returned (.bool (labName s == deltaB)) ∧ Below w.heap.size w w' := by
 have HN := Lib.hid (LabelName_any s w hs hl g)
 have HO := Lib.hid (name_bytes s)
 obtain ⟨nm, hnm⟩ : ∃ nm : ByteArray, nm = ⟨(labName s).toArray⟩ := ⟨_, rfl⟩
 rw [← hnm] at HN HO
 clear g hs hl hnm
 go_enter Tryz.func37, Tryz.ntmps37
 go_wp2_with fail
 refine Calls.mono HN.out ?_
 rintro e w1 ⟨rfl, hb1⟩
 have HB1 := Lib.hid hb1
 clear hb1 HN
 go_wp2
 go_ret
 exact ⟨ret_bool (by rw [HO.out]; rfl), HB1.out⟩

theorem if_iff {t : Lts} {ins : List ByteArray} : IfOk t ins ↔ Valid t ∧ NamesUp ins ∧ (ins.any fun y => y.toList == (⟨#[100, 101, 108, 116, 97]⟩ : ByteArray).toList) = false ∧ (t.labels.any fun s => labName s == deltaB) = false := by
 rw [show (⟨#[100, 101, 108, 116, 97]⟩ : ByteArray).toList = deltaB from deltaT_list, List.any_eq_false, List.any_eq_false]
 constructor
 ·intro h
  exact ⟨h.valid, ⟨h.acts, h.rise⟩, fun s hs hh => h.nodelta s hs (eq_of_beq hh), fun l hl hh => h.names l hl (eq_of_beq hh)⟩
 ·rintro ⟨h1, ⟨h2, h3⟩, h4, h5⟩
  exact ⟨h1, h2, h3, fun s hs hh => h4 s hs (by rw [hh]; exact beq_self_eq_true _), fun l hl hh => h5 l hl (by rw [hh]; exact beq_self_eq_true _)⟩

set_option maxRecDepth 100000 in
set_option maxHeartbeats 2000000 in
theorem ValidInterface_any (lo : Nat) (t : Lts) (lv ev v : Value) (ins : List ByteArray) (w : World) (hsh : Short20 t.labels) (hsi : Short20 ins) (hl : SliceK 1 encS lo w lv t.labels) (he : SliceK 3 encE lo w ev t.edges) (hi : SliceK 1 encS lo w v ins) (g : Glob w) :
  Calls Tryz.prog 17 #[.agg #[.int .i64 t.states, .int .i64 t.initial, lv, ev], v] w (Decides (IfOk t ins) w) := by
 obtain ⟨tb, htb⟩ : ∃ tb, tb = w.heap.size := ⟨_, rfl⟩
 obtain ⟨wA, hwA⟩ : ∃ wA, wA = w.alloc (.cells #[.int .i64 t.states, .int .i64 t.initial, lv, ev] 27) := ⟨_, rfl⟩
 have hbA : Below w.heap.size w wA := by rw [hwA]; exact (Below.refl _ _).alloc (Nat.le_refl _) _
 have hT : Blk wA tb [.int .i64 t.states, .int .i64 t.initial, lv, ev] 27 := by rw [hwA, htb]; exact Blk.new w _ _
 have HSH := Lib.hid hsh
 have HSI := Lib.hid hsi
 have HL := Lib.hid (hl.below hbA)
 have HE := Lib.hid (he.below hbA)
 have HI := Lib.hid (hi.below hbA)
 have HG := Lib.hid (g.below hbA)
 have HBA := Lib.hid hbA
 have HT := Lib.hid hT
 have HWA := Lib.hid hwA
 have HTB := Lib.hid htb
 clear hsh hsi hl he hi g hbA hT hwA htb
 by_cases hv : Valid t
 ·have HV := Lib.hid hv
  have HVA := Lib.hid (Valid_yes hv HSH.out HL.out HE.out HG.out)
  clear hv
  go_enter Tryz.func17, Tryz.ntmps17
  go_wp2_with fail
  rw [← HWA.out]
  refine Calls.mono HVA.out ?_
  rintro e w1 ⟨rfl, hb1⟩
  have HB1 := Lib.hid hb1
  have HNI := namesIncrease_any lo v ins w1 HSI.out (HI.out.below hb1)
  by_cases hn : NamesUp ins
  ·have HN := Lib.hid hn
   have HNA := Lib.hid (Decides.yes HNI hn)
   clear hn HNI hb1
   go_wp2_with fail
   refine Calls.mono HNA.out ?_
   rintro e w2 ⟨rfl, hb2⟩
   have HB2 := Lib.hid (HB1.out.trans (hb2.mono HB1.out.size))
   have HC := Lib.hid (Contains_strs lo v ⟨#[100, 101, 108, 116, 97]⟩ ins w2 (HI.out.below HB2.out))
   have t2 := (HT.out.below HB2.out).cell 2 rfl
   clear hb2 HNA
   cases hd : ins.any fun y => y.toList == (⟨#[100, 101, 108, 116, 97]⟩ : ByteArray).toList
   ·have HD := Lib.hid hd
    rw [hd] at HC
    have HF := Lib.hid (ContainsFuncS lo lv t.labels 37 #[] (fun s => labName s == deltaB) w2 (HL.out.below HB2.out) (fun args w => by kernel_rfl)
     fun w3 hb3 x hx => vi1_any x w3 (short_mem HSH.out x hx) (lab_ok HV.out x hx) ((HG.out.below HB2.out).below hb3))
    clear hd
    go_wp2_with fail
    refine Calls.mono HC.out ?_
    rintro e w3 ⟨rfl, rfl⟩
    rw [← HTB.out]
    go_wp2_with fail
    refine Calls.mono HF.out ?_
    rintro e w4 ⟨rfl, hb4⟩
    have HB4 := Lib.hid (HB2.out.trans (hb4.mono HB2.out.size))
    clear hb4 HF t2
    go_wp2
    go_ret
    refine ⟨_, rfl, ?_, HBA.out.trans (HB4.out.mono HBA.out.size)⟩
    rw [if_iff]
    rw [Bool.not_eq_true']
    exact ⟨fun h => ⟨HV.out, HN.out, HD.out, h⟩, fun h => h.2.2.2⟩
   ·have HD := Lib.hid hd
    rw [hd] at HC
    clear hd
    go_wp2_with fail
    refine Calls.mono HC.out ?_
    rintro e w3 ⟨rfl, rfl⟩
    go_wp2
    go_ret
    refine ⟨false, rfl, ?_, HBA.out.trans (HB2.out.mono HBA.out.size)⟩
    rw [if_iff, HD.out]
    exact ⟨fun h => (by cases h), fun h => (by cases h.2.2.1)⟩
  ·have HN := Lib.hid hn
   have HNA := Lib.hid (Decides.no HNI hn)
   clear hn HNI hb1
   go_wp2_with fail
   refine Calls.mono HNA.out ?_
   rintro e w2 ⟨rfl, hb2⟩
   have HB2 := Lib.hid (HB1.out.trans (hb2.mono HB1.out.size))
   clear hb2 HNA
   go_wp2
   go_ret
   refine ⟨false, rfl, ?_, HBA.out.trans (HB2.out.mono HBA.out.size)⟩
   exact ⟨fun h => (by cases h), fun h => absurd ⟨h.acts, h.rise⟩ HN.out⟩
 ·have HV := Lib.hid hv
  have HVA := Lib.hid (Valid_no hv HSH.out HL.out HE.out HG.out)
  clear hv
  go_enter Tryz.func17, Tryz.ntmps17
  go_wp2_with fail
  rw [← HWA.out]
  refine Calls.mono HVA.out ?_
  rintro e w1 ⟨rfl, hb1⟩
  have HB1 := Lib.hid hb1
  clear hb1 HVA
  go_wp2
  go_ret
  refine ⟨false, rfl, ?_, HBA.out.trans (HB1.out.mono HBA.out.size)⟩
  exact ⟨fun h => (by cases h), fun h => absurd h.valid HV.out⟩

theorem chk_results {w : World} {b : Nat} {v0 v1 v2 v3 : Value} {tmps : Array Value} (hc : tmps.getD 2 undef = .pointer (some ⟨b, 0, none⟩)) (hb : Blk w b [v0, v1, v2, v3] 27) :
  (results Tryz.f19 tmps).run Tryz.prog w = .ok (.tuple #[.agg #[v0, v1, v2, v3], tmps.getD 3 undef]) w := by
 have h0 := hb.cell 0 rfl
 have h1 := hb.cell 1 rfl
 have h2 := hb.cell 2 rfl
 have h3 := hb.cell 3 rfl
 simp only [Array.getD_eq_getD_getElem?] at hc
 simp [results, Tryz.results19, go_sem, hc, h0, h1, h2, h3, Result.andThen]

set_option maxRecDepth 100000 in
set_option maxHeartbeats 2000000 in
theorem checked_any (lo : Nat) (t : Lts) (lv ev : Value) (w : World) (hsh : Short20 t.labels) (hl : SliceK 1 encS lo w lv t.labels) (he : SliceK 3 encE lo w ev t.edges) (g : Glob w) :
  Calls Tryz.prog 19 #[.agg #[.int .i64 t.states, .int .i64 t.initial, lv, ev]] w fun e w' => Below w.heap.size w w' ∧ ((Valid t ∧ e = .returned (.tuple #[.agg #[.int .i64 t.states, .int .i64 t.initial, lv, ev], .int .i64 0])) ∨ (¬ Valid t ∧ e = .returned (.tuple #[.agg #[.int .i64 0, .int .i64 0, .slice none 0 0, .slice none 0 0], .int .i64 5]))) := by
 obtain ⟨la, lc, rfl, -⟩ := id hl
 obtain ⟨ea, ec, rfl, -⟩ := id he
 generalize hLN : t.labels.length = LN at hl ⊢
 generalize hEN : t.edges.length = EN at he ⊢
 obtain ⟨tb, htb⟩ : ∃ tb, tb = w.heap.size := ⟨_, rfl⟩
 obtain ⟨wA, hwA⟩ : ∃ wA, wA = (w.alloc (.cells #[.int .i64 t.states, .int .i64 t.initial, .slice la LN lc, .slice ea EN ec] 27)).alloc (.cells #[.int .i64 0, .int .i64 0, .slice none 0 0, .slice none 0 0] 27) := ⟨_, rfl⟩
 have hbA : Below w.heap.size w wA := by rw [hwA]; exact ((Below.refl _ _).alloc (Nat.le_refl _) _).alloc (by simp) _
 have hT : Blk wA tb [.int .i64 t.states, .int .i64 t.initial, .slice la LN lc, .slice ea EN ec] 27 := by rw [hwA, htb]; exact (Blk.new w _ _).alloc _
 have hR : Blk wA (tb + 1) [.int .i64 0, .int .i64 0, .slice none 0 0, .slice none 0 0] 27 := by
  have := Blk.new (w.alloc (.cells #[.int .i64 t.states, .int .i64 t.initial, .slice la LN lc, .slice ea EN ec] 27)) [.int .i64 0, .int .i64 0, .slice none 0 0, .slice none 0 0] 27
  rw [World.size_alloc, ← htb] at this
  rw [hwA]
  exact this
 have HSH := Lib.hid hsh
 have HL := Lib.hid (hl.below hbA)
 have HE := Lib.hid (he.below hbA)
 have HG := Lib.hid (g.below hbA)
 have HBA := Lib.hid hbA
 have HT := Lib.hid hT
 have HR := Lib.hid hR
 have HWA := Lib.hid hwA
 have HTB := Lib.hid htb
 have hsW : w.heap.size ≤ wA.heap.size := hbA.size
 have hle : w.heap.size ≤ tb + 1 := by rw [htb]; omega
 clear hsh hl he g hwA hbA hT hR htb hLN hEN
 by_cases hv : Valid t
 ·have HV := Lib.hid hv
  have HVA := Lib.hid (Valid_yes hv HSH.out HL.out HE.out HG.out)
  clear hv
  go_enter Tryz.func19, Tryz.ntmps19
  go_wp2_with fail
  rw [← HWA.out]
  refine Calls.mono HVA.out ?_
  rintro e w1 ⟨rfl, hb1⟩
  have HB1 := Lib.hid hb1
  have HR1 := Lib.hid (HR.out.below hb1)
  have HT1 := Lib.hid (HT.out.below hb1)
  have t0 := HT1.out.cell 0 rfl
  have t1 := HT1.out.cell 1 rfl
  have t2 := HT1.out.cell 2 rfl
  have t3 := HT1.out.cell 3 rfl
  have r0 := HR1.out.cell 0 rfl
  have r1 := HR1.out.cell 1 rfl
  have r2 := HR1.out.cell 2 rfl
  have r3 := HR1.out.cell 3 rfl
  have s0 := HR1.out.frozen 0
  have s1 := HR1.out.frozen 1
  have s2 := HR1.out.frozen 2
  have s3 := HR1.out.frozen 3
  clear hb1
  rw [← HTB.out]
  go_wp2
  refine bodyPost_ret (chk_results rfl ((((HR1.out.set 0 _).set 1 _).set 2 _).set 3 _)) rfl ?_
  exact ⟨((((HBA.out.trans (HB1.out.mono hsW)).setCell hle _).setCell hle _).setCell hle _).setCell hle _, .inl ⟨HV.out, rfl⟩⟩
 ·have HV := Lib.hid hv
  have HVA := Lib.hid (Valid_no hv HSH.out HL.out HE.out HG.out)
  clear hv
  go_enter Tryz.func19, Tryz.ntmps19
  go_wp2_with fail
  rw [← HWA.out]
  refine Calls.mono HVA.out ?_
  rintro e w1 ⟨rfl, hb1⟩
  have HB1 := Lib.hid hb1
  have HR1 := Lib.hid (HR.out.below hb1)
  have r0 := HR1.out.cell 0 rfl
  have r1 := HR1.out.cell 1 rfl
  have r2 := HR1.out.cell 2 rfl
  have r3 := HR1.out.cell 3 rfl
  have s0 := HR1.out.frozen 0
  have s1 := HR1.out.frozen 1
  have s2 := HR1.out.frozen 2
  have s3 := HR1.out.frozen 3
  clear hb1
  rw [← HTB.out]
  go_wp2
  refine bodyPost_ret (chk_results rfl ((((HR1.out.set 0 _).set 1 _).set 2 _).set 3 _)) rfl ?_
  exact ⟨((((HBA.out.trans (HB1.out.mono hsW)).setCell hle _).setCell hle _).setCell hle _).setCell hle _, .inr ⟨HV.out, rfl⟩⟩

end Go.Proofs.YtnmkncioekdehaaGreatDoor

namespace Go.Proofs.YtnmkncioekdehaaGreatDoor
open Go Go.RowKit


theorem own4 {w : World} {b : Nat} {x0 x1 x2 x3 v0 v1 v2 v3 : Value} (hb : Blk w b [x0, x1, x2, x3] 27) {base e size n : Nat} {v : Value} {xs : List Value} (ho : w.ownsRow base e size v n xs) (he : e ≠ 27) :
  ((((w.setCell ⟨b, 0, none⟩ v0).setCell ⟨b, 1, none⟩ v1).setCell ⟨b, 2, none⟩ v2).setCell ⟨b, 3, none⟩ v3).ownsRow base e size v n xs :=
 own_sets (own_sets (own_sets (own_sets ho hb he 0 _) (hb.set 0 v0) he 1 _) ((hb.set 0 v0).set 1 v1) he 2 _) (((hb.set 0 v0).set 1 v1).set 2 v2) he 3 _
end Go.Proofs.YtnmkncioekdehaaGreatDoor

namespace Go.Proofs.YtnmkncioekdehaaGreatDoor
open Go Go.RowKit


theorem susL_short {t : Lts} (h : Short20 t.labels) : Short20 (susL t) := by
 intro i hi
 rcases (susL_mem _).1 (List.getElem_mem hi) with e | e | e
 ·rw [e]; decide
 ·obtain ⟨j, hj, e2⟩ := List.mem_iff_getElem.1 e
  rw [← e2]; exact h j hj
 ·rw [e]; decide
/-- The suspended system, or why there is none. -/
def SlIs (t : Lts) (ins : List ByteArray) (d : Lts) (code : Int) : Prop :=
 (¬ IfOk t ins ∧ d = ⟨0, 0, [], []⟩ ∧ code = 1) ∨ (IfOk t ins ∧ ¬ Valid (susT t ins) ∧ d = ⟨0, 0, [], []⟩ ∧ code = 5) ∨ (IfOk t ins ∧ Valid (susT t ins) ∧ d = susT t ins ∧ code = 0)
def RetSl (t : Lts) (ins : List ByteArray) (w : World) (e : Ending) (w' : World) : Prop :=
 Below w.heap.size w w' ∧ ∃ (d : Lts) (code : Int) (lv ev : Value), e = .returned (.tuple #[.agg #[.int .i64 d.states, .int .i64 d.initial, lv, ev], .int .i64 code]) ∧ SlIs t ins d code ∧ OwnLts w.heap.size w' lv ev d
theorem sl_none {t : Lts} {ins : List ByteArray} {code : Int} {w w' : World} (hb : Below w.heap.size w w') (h : SlIs t ins ⟨0, 0, [], []⟩ code) : RetSl t ins w (.returned (.tuple #[.agg #[.int .i64 0, .int .i64 0, .slice none 0 0, .slice none 0 0], .int .i64 code])) w' :=
 ⟨hb, ⟨0, 0, [], []⟩, code, _, _, rfl, h, World.ownsRow_nil _ _ _ _, World.ownsRow_nil _ _ _ _⟩
end Go.Proofs.YtnmkncioekdehaaGreatDoor
