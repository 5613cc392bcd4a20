/-
  The reference's l16Step: what weak steps with a label reach.
  The reference's l16Saturate.
-/
import Derived.Test.YtjoacldbgnphkaaGreatDoorE21
import Derived.Test.YtjoacldbgnphkaaGreatDoorE10
import Derived.Deep.RegionHeld3
import Derived.Deep.AppendLies
import Derived.Deep.Cut
namespace Go.Proofs.YtjoacldbgnphkaaGreatDoor
open Go Go.RowKit


theorem OwnM.bools {B : Nat} {w : World} {G N NN : Nat} {f : Mat} (h : OwnM B w G N NN f) : BoolAt w G NN (flatM N f) := ⟨(World.ownsRow.lt h G rfl).2, fun i hi => by
 rw [World.ownsRow.cellAt h i (by omega), rowT_get hi]⟩
theorem boolM {w : World} {G N NN a c q : Nat} {f : Mat} (h : BoolAt w G NN (flatM N f)) (hNN : NN = N * N) (hq : q = a * N + c) (ha : a < N) (hc : c < N) : w.cell? ⟨G, q, none⟩ = some (.bool (f a c)) := by
 subst hNN hq
 rw [h.2 _ (flat_lt ha hc), flatM_at hc]
/-- A label's number fixes its text. -/
theorem lab_num {t : Lts} (hv : Valid t) {e : Edge} (he : EdgeOk t e) {i : Nat} (hi : i < t.labels.length) : ((labAt t e).toList == (labI t i).toList) = (e.lab == (i : Int)) := by
 have h1 := textAt_lab hv he (labI t i)
 have h2 := textAt_lab hv (e := ⟨0, (i : Int), 0⟩) ⟨by simp, by have := hv.st0; show (0 : Int) < _; omega, by simp, by have := hv.st0; show (0 : Int) < _; omega, by simp, by show (i : Int) < _; omega⟩ (labI t i)
 have h3 : (labAt t ⟨0, (i : Int), 0⟩).toList = (labI t i).toList := by
  unfold labAt labI
  simp
 have h4 := h2.2 h3
 rw [Bool.eq_iff_iff, beq_iff_eq, beq_iff_eq, ← h1, ← h4]
theorem lab_zero {t : Lts} (hv : Valid t) : ((labI t 0).toList == [116, 97, 117]) = true := by
 have h := hv.labels.pos
 rw [labI_get h, hv.labels.first h]
 rfl
theorem lab_other {t : Lts} (hv : Valid t) {i : Nat} (hi : i < t.labels.length) (h0 : i ≠ 0) : ((labI t i).toList == [116, 97, 117]) = false := by
 rw [labI_get hi, beq_eq_false_iff_ne]
 exact hv.labels.other i hi (by omega)

set_option maxRecDepth 100000 in
set_option maxHeartbeats 4000000 in
theorem l16Step_any (bt lo N NN M y i : Nat) (t : Lts) (w : World) (hv : Valid t) (hN : (N : Int) = t.states) (hNN : NN = N * N) (hy : y < N) (hi : i < t.labels.length) (hp : LtsPtr lo w bt t) (hm : BoolAt w M NN (flatM N (stillM t))) :
  Calls Tryz.prog 53 #[.pointer (some ⟨bt, 0, none⟩), .slice (some ⟨M, 0, none⟩) NN NN, .int .i64 y, .int .i64 i] w fun e w' => ∃ g, e = .returned (.slice (some ⟨g, 0, none⟩) N N) ∧ Below w.heap.size w w' ∧ w'.ownsRow w.heap.size 4 1 (.slice (some ⟨g, 0, none⟩) N N) N (rowT N (tgtK 2 t y (labI t i))) := by
 have HV := Lib.hid hv
 have h1 := hv.st0
 have h2 := hv.st1
 have hmost := hv.most
 have HNS := Lib.hid hN
 have HI := Lib.hid hi
 have hl12 := hv.labels.most
 have hi12 : i ≤ 12 := by omega
 obtain ⟨lv, ev, hpl, q0, -, -, q3, -, hes⟩ := hp
 obtain ⟨ae, ce, rfl, hen, hec, herow⟩ := hes
 rw [← hN] at q0 h1 h2
 have hN40 : N ≤ 40 := by omega
 have hNN2 : NN ≤ 1600 := by rw [hNN]; exact Nat.le_trans (Nat.mul_le_mul hN40 hN40) (by decide)
 have HER := Lib.hid herow
 have HNN := Lib.hid hNN
 have HM := Lib.hid hm
 obtain ⟨E, hE⟩ : ∃ E, E = t.edges.length := ⟨_, rfl⟩
 rw [← hE] at hen hmost q3
 have HEE := Lib.hid hE
 have HQ3 := Lib.hid q3
 have HLN : Hid (∀ n (h : n < t.edges.length), ((labAt t t.edges[n]).toList == (labI t i).toList) = (t.edges[n].lab == (i : Int))) := fun n h => lab_num hv (hv.edge n h) hi
 have HL0 := Lib.hid (lab_zero hv)
 have HL1 : Hid (i ≠ 0 → ((labI t i).toList == [116, 97, 117]) = false) := fun h => lab_other hv hi h
 obtain ⟨ib, hib, hzb0, hzb1, hzb2⟩ := info_parts info_boolG
 clear hv hN hNN herow hE hm hi hl12
 go_enter Tryz.func53, Tryz.ntmps53
 go_wp2_with (at_make; refine wpList_make_full _ rfl _ _ 89 rfl w.heap.size 4 ib _ 1 Tryz.underlying89 hib hzb0 hzb1 .i64 .i64 _ _ N rfl rfl rfl rfl ?_ ?_ ?_ ?_)
 ·rw [hzb2]; omega
 ·simp [maxLen]; omega
 ·exact Nat.le_refl _
 intro w1 ho hg
 rw [toList_madeCells_one] at ho
 obtain ⟨G, hG⟩ : ∃ G, G = w.heap.size := ⟨_, rfl⟩
 have HB1 : Hid (Below w.heap.size w w1) := (Below.refl _ w).grown hg (Nat.le_refl _) (fun _ h => by cases h)
 rw [← hG] at ho ⊢
 have HO1 : Hid (w1.ownsRow w.heap.size 4 1 (.slice (some ⟨G, 0, none⟩) N N) N (rowT N (fun _ => false))) := by
  unfold Hid
  rw [← hG]
  have e : rowT N (fun _ => false) = List.replicate N (.bool false) := by
   apply List.ext_getElem (by simp [rowT])
   intro i h1 h2
   simp [rowT]
  rw [e]
  simpa using ho
 have HGW : Hid (G = w.heap.size) := hG
 clear ho hg hib hzb0 hzb1 hzb2 hG q0 q3
 by_cases hz : i = 0
 ·subst hz
  have HM0 : Hid (w1.ownsRow w.heap.size 4 1 (.slice (some ⟨G, 0, none⟩) N N) N (rowT N (mixT (fun _ => false) (closB t y) 0))) := by unfold Hid; rw [mixT_zero]; exact HO1.out
  have HALL : Hid (rowT N (mixT (fun _ => false) (closB t y) N) = rowT N (tgtK 2 t y (labI t 0))) := mixT_all fun j _ => by rw [tau_row HL0.out]; rfl
  clear HO1
  go_wp2
  go_loopw [11] (fun v11 wr => ∃ k : Nat, k ≤ N ∧ v11 = .int .i64 k ∧ Below w.heap.size w wr ∧ wr.ownsRow w.heap.size 4 1 (.slice (some ⟨G, 0, none⟩) N N) N (rowT N (mixT (fun _ => false) (closB t y) k))) (fun v11 _ => N - (intOf v11).toNat)
  case atStart => exact ⟨0, Nat.zero_le _, rfl, HB1.out, HM0.out⟩
  case round =>
   clear HB1 HM0
   obtain ⟨k, hk, rfl, hbl, hoo⟩ := hrel
   obtain ⟨wC, rfl⟩ : ∃ wC : World, wC = wr := ⟨_, rfl⟩
   have HBC := Lib.hid hbl
   have HOC := Lib.hid hoo
   clear hoo
   by_cases hlt : k < N
   ·obtain ⟨P, hP⟩ : ∃ P : Nat, P = y * N := ⟨_, rfl⟩
    have hmi : (y : Int) * (N : Int) = (P : Int) := by rw [hP]; simp
    have hPN : P + k < NN := by rw [hP, HNN.out]; exact flat_lt hy hlt
    have hcell := boolM (q := P + k) (HM.out.below hbl) HNN.out (by rw [hP]) hy hlt
    have hst : stillM t y k = closB t y k := rfl
    rw [hst] at hcell
    have hco : wC.cell? ⟨G, k, none⟩ = some (.bool (mixT (fun _ => false) (closB t y) k k)) := by rw [HOC.out.cellAt k (by omega), rowT_get hlt]
    have hfz := HOC.out.frozenAt k
    have hmx := mixT_set (f := fun _ => false) (g := closB t y) hlt
    have hm0 : mixT (fun _ => false) (closB t y) k k = false := by unfold mixT; simp
    rw [hm0, Bool.false_or] at hmx
    rw [hm0] at hco
    obtain ⟨cb, hcb⟩ : ∃ cb, cb = closB t y k := ⟨_, rfl⟩
    rw [← hcb] at hcell hmx
    have HST : Hid ((wC.setCell ⟨G, k, none⟩ (.bool cb)).ownsRow w.heap.size 4 1 (.slice (some ⟨G, 0, none⟩) N N) N (rowT N (mixT (fun _ => false) (closB t y) (k + 1)))) := by
     unfold Hid
     rw [← hmx]
     exact (HOC.out.stored k (.bool cb)).1
    have HBS : Hid (Below w.heap.size w (wC.setCell ⟨G, k, none⟩ (.bool cb))) := HBC.out.setCell (by show w.heap.size ≤ G; rw [HGW.out]; exact Nat.le_refl _) _
    clear hP hst hmx hm0 hcb hbl
    go_wp2
    go_roundw
    case rel => exact ⟨k + 1, by omega, by go_num, HBS.out, HST.out⟩
    case measure => simp [intOf]; omega
   ·have HK : Hid (k = N) := Lib.hid (show k = N by omega)
    have HRES : Hid (wC.ownsRow w.heap.size 4 1 (.slice (some ⟨G, 0, none⟩) N N) N (rowT N (tgtK 2 t y (labI t 0)))) := by
     have h := HOC.out
     rw [HK.out, HALL.out] at h
     exact h
    clear HK hbl
    go_wp2
    go_ret
    exact ⟨G, rfl, HBC.out, HRES.out⟩
 ·have hzi : ((i : Int) == 0) = false := by rw [beq_eq_false_iff_ne]; omega
  have HLT := Lib.hid (HL1.out hz)
  obtain ⟨l, hl⟩ : ∃ l, l = labI t i := ⟨_, rfl⟩
  rw [← hl] at HLT HLN
  have HLE := Lib.hid hl
  have HO0 : Hid (w1.ownsRow w.heap.size 4 1 (.slice (some ⟨G, 0, none⟩) N N) N (rowT N (wkTo t y l 0))) := by
   unfold Hid
   rw [show rowT N (wkTo t y l 0) = rowT N (fun _ => false) from rowT_congr fun j _ => wkTo_zero t y l j]
   exact HO1.out
  clear HO1 hz hl HL1 HL0
  go_wp2
  go_loopw [12] (fun v12 wr => ∃ n : Nat, n ≤ E ∧ v12 = .int .i64 n ∧ Below w.heap.size w wr ∧ wr.ownsRow w.heap.size 4 1 (.slice (some ⟨G, 0, none⟩) N N) N (rowT N (wkTo t y l n))) (fun v12 _ => E - (intOf v12).toNat)
  case atStart => exact ⟨0, Nat.zero_le _, rfl, HB1.out, HO0.out⟩
  case round =>
   clear HB1 HO0
   obtain ⟨n, hn, rfl, hbl, hoo⟩ := hrel
   obtain ⟨wC, rfl⟩ : ∃ wC : World, wC = wr := ⟨_, rfl⟩
   have HBC := Lib.hid hbl
   have HOC := Lib.hid hoo
   have q3 := keeps hbl hpl HQ3.out
   have hsC := hbl.size
   clear hoo
   by_cases hlt : n < E
   ·have hnE : n < t.edges.length := by rw [← HEE.out]; exact hlt
    obtain ⟨be, oe, rfl, -, hbe, e1, e2, e3⟩ := (HER.out.below hbl).edge hnE
    have hok := HV.out.edge n hnE
    have hst := fun x => wkTo_succ (y := (y : Int)) (l := l) hnE x
    have hln := HLN.out n hnE
    obtain ⟨q, hq⟩ : ∃ q, q = t.edges[n] := ⟨_, rfl⟩
    rw [← hq] at e1 e2 e3 hok hst hln
    rw [hln] at hst
    obtain ⟨es, hes⟩ : ∃ d : Nat, (d : Int) = q.src := ⟨q.src.toNat, by have := hok.s0; omega⟩
    obtain ⟨ed, hed⟩ : ∃ d : Nat, (d : Int) = q.dst := ⟨q.dst.toNat, by have := hok.d0; omega⟩
    have hsn : es < N := by have := hok.s1; have := HNS.out; omega
    have hdn : ed < N := by have := hok.d1; have := HNS.out; omega
    obtain ⟨el, hel⟩ : ∃ el, el = q.lab := ⟨_, rfl⟩
    rw [← hes] at e1 hst
    rw [← hel] at e2 hst
    rw [← hed] at e3 hst
    obtain ⟨W2, hW2⟩ : ∃ W2, W2 = wC.alloc (.cells #[.int .i64 es, .int .i64 el, .int .i64 ed] 66) := ⟨_, rfl⟩
    have hb2 : Below wC.heap.size wC W2 := by rw [hW2]; exact (Below.refl _ _).alloc (Nat.le_refl _) _
    have HB2 : Hid (Below w.heap.size w W2) := hbl.trans (hb2.mono hsC)
    have HO2 := Lib.hid (owns_below HOC.out hb2)
    obtain ⟨P, hP⟩ : ∃ P : Nat, P = y * N := ⟨_, rfl⟩
    have hmi : (y : Int) * (N : Int) = (P : Int) := by rw [hP]; simp
    have hPN : P + es < NN := by rw [hP, HNN.out]; exact flat_lt hy hsn
    have hcell := boolM (q := P + es) (HM.out.below HB2.out) HNN.out (by rw [hP]) hy hsn
    have hsm : stillM t y es = closB t y es := rfl
    rw [hsm] at hcell
    obtain ⟨nb, hnb⟩ : ∃ nb, nb = closB t y es := ⟨_, rfl⟩
    rw [← hnb] at hcell hst
    rw [hW2] at hcell
    have HST := Lib.hid hst
    have HW2 := Lib.hid hW2
    clear hq hok hst hln hes hed hel hb2 hP hsm hnb hW2 hbl
    cases hgl : (el == (i : Int))
    ·have HNO : Hid (rowT N (wkTo t y l (n + 1)) = rowT N (wkTo t y l n)) := rowT_congr fun x _ => by rw [HST.out, hgl]; simp
     have hgn : (el != (i : Int)) = true := by rw [bne, hgl]; rfl
     clear hcell hmi hPN
     go_wp2
     try rw [← HW2.out]
     go_roundw
     case rel => exact ⟨n + 1, by omega, by go_num, HB2.out, by rw [HNO.out]; exact HO2.out⟩
     case measure => simp [intOf]; omega
    ·have hgn : (el != (i : Int)) = false := by rw [bne, hgl]; rfl
     cases nb
     ·have HNO : Hid (rowT N (wkTo t y l (n + 1)) = rowT N (wkTo t y l n)) := rowT_congr fun x _ => by rw [HST.out]; simp
      go_wp2
      try rw [← HW2.out]
      go_roundw
      case rel => exact ⟨n + 1, by omega, by go_num, HB2.out, by rw [HNO.out]; exact HO2.out⟩
      case measure => simp [intOf]; omega
     ·have HYES : Hid (rowT N (mixT (wkTo t y l n) (closB t ed) N) = rowT N (wkTo t y l (n + 1))) := mixT_all fun x _ => by rw [HST.out, hgl]; simp
      have HM0 : Hid (rowT N (mixT (wkTo t y l n) (closB t ed) 0) = rowT N (wkTo t y l n)) := mixT_zero
      obtain ⟨xb, hxb⟩ : ∃ xb, xb = wC.heap.size := ⟨_, rfl⟩
      have HXE : Hid (Blk W2 xb [.int .i64 es, .int .i64 el, .int .i64 ed] 66) := by unfold Hid; rw [HW2.out, hxb]; exact Blk.new wC _ _
      have HXG : Hid (xb ≠ G) := by have := (HOC.out.lt G rfl).2; unfold Hid; omega
      have HXB := Lib.hid hxb
      clear hxb
      go_wp2
      (try rw [← HW2.out])
      (try rw [← HXB.out])
      clear hcell hmi hPN
      go_loopw [14] (fun v14 wr => ∃ k : Nat, k ≤ N ∧ v14 = .int .i64 k ∧ Below w.heap.size w wr ∧ Blk wr xb [.int .i64 es, .int .i64 el, .int .i64 ed] 66 ∧ wr.ownsRow w.heap.size 4 1 (.slice (some ⟨G, 0, none⟩) N N) N (rowT N (mixT (wkTo t y l n) (closB t ed) k))) (fun v14 _ => N - (intOf v14).toNat)
      case atStart => exact ⟨0, Nat.zero_le _, rfl, HB2.out, HXE.out, by rw [HM0.out]; exact HO2.out⟩
      case round =>
       clear HB2 HO2 HM0 HXE HBC HOC
       obtain ⟨j, hj, rfl, hbl, hxe, hoo⟩ := hrel
       obtain ⟨wD, rfl⟩ : ∃ wD : World, wD = wr := ⟨_, rfl⟩
       have HBD := Lib.hid hbl
       have HXD := Lib.hid hxe
       have HOD := Lib.hid hoo
       have x2 := hxe.cell 2 rfl
       clear hoo hxe
       by_cases hjl : j < N
       ·obtain ⟨Q, hQ⟩ : ∃ Q : Nat, Q = ed * N := ⟨_, rfl⟩
        have hmi : (ed : Int) * (N : Int) = (Q : Int) := by rw [hQ]; simp
        have hQN : Q + j < NN := by rw [hQ, HNN.out]; exact flat_lt hdn hjl
        have hcell := boolM (q := Q + j) (HM.out.below hbl) HNN.out (by rw [hQ]) hdn hjl
        have hsm : stillM t ed j = closB t ed j := rfl
        rw [hsm] at hcell
        have hco : wD.cell? ⟨G, j, none⟩ = some (.bool (mixT (wkTo t y l n) (closB t ed) j j)) := by rw [HOD.out.cellAt j (by omega), rowT_get hjl]
        have hfz := HOD.out.frozenAt j
        have hmx := mixT_set (f := wkTo t y l n) (g := closB t ed) hjl
        obtain ⟨ob, hob⟩ : ∃ ob, ob = mixT (wkTo t y l n) (closB t ed) j j := ⟨_, rfl⟩
        obtain ⟨fb, hfb⟩ : ∃ fb, fb = closB t ed j := ⟨_, rfl⟩
        rw [← hob, ← hfb] at hmx
        rw [← hob] at hco
        rw [← hfb] at hcell
        cases fb
        ·have HSAME : Hid (wD.ownsRow w.heap.size 4 1 (.slice (some ⟨G, 0, none⟩) N N) N (rowT N (mixT (wkTo t y l n) (closB t ed) (j + 1)))) := by
          have h1 : rowT N (mixT (wkTo t y l n) (closB t ed) j) = rowT N (mixT (wkTo t y l n) (closB t ed) (j + 1)) := rowT_congr fun x _ => by
           unfold mixT
           by_cases e : x = j
           ·subst e; rw [← hfb]; simp
           ·by_cases h : x < j
            ·rw [decide_eq_true (show (x : Int) < (j : Int) by omega), decide_eq_true (show (x : Int) < ((j + 1 : Nat) : Int) by omega)]
            ·rw [decide_eq_false (show ¬ (x : Int) < (j : Int) by omega), decide_eq_false (show ¬ (x : Int) < ((j + 1 : Nat) : Int) by omega)]
          unfold Hid
          rw [← h1]
          exact HOD.out
         clear hQ hsm hmx hob hfb hbl hco hfz
         go_wp2
         go_roundw
         case rel => exact ⟨j + 1, by omega, by go_num, HBD.out, HXD.out, HSAME.out⟩
         case measure => simp [intOf]; omega
        ·rw [Bool.or_true] at hmx
         have HST2 : Hid ((wD.setCell ⟨G, j, none⟩ (.bool true)).ownsRow w.heap.size 4 1 (.slice (some ⟨G, 0, none⟩) N N) N (rowT N (mixT (wkTo t y l n) (closB t ed) (j + 1)))) := by
          unfold Hid
          rw [← hmx]
          exact (HOD.out.stored j (.bool true)).1
         have HBS : Hid (Below w.heap.size w (wD.setCell ⟨G, j, none⟩ (.bool true))) := HBD.out.setCell (by show w.heap.size ≤ G; rw [HGW.out]; exact Nat.le_refl _) _
         have HXS : Hid (Blk (wD.setCell ⟨G, j, none⟩ (.bool true)) xb [.int .i64 es, .int .i64 el, .int .i64 ed] 66) := HXD.out.setOther _ _ HXG.out
         clear hQ hsm hmx hob hfb hbl
         go_wp2
         go_roundw
         case rel => exact ⟨j + 1, by omega, by go_num, HBS.out, HXS.out, HST2.out⟩
         case measure => simp [intOf]; omega
       ·have HJ : Hid (j = N) := Lib.hid (show j = N by omega)
        have HRES : Hid (wD.ownsRow w.heap.size 4 1 (.slice (some ⟨G, 0, none⟩) N N) N (rowT N (wkTo t y l (n + 1)))) := by
         have h := HOD.out
         rw [HJ.out, HYES.out] at h
         exact h
        clear HJ hbl x2
        go_wp2
        go_roundw
        case rel => exact ⟨n + 1, by omega, by go_num, HBD.out, HRES.out⟩
        case measure => simp [intOf]; omega
   ·have HNE : Hid (n = t.edges.length) := Lib.hid (by rw [← HEE.out]; omega)
    have HRES : Hid (wC.ownsRow w.heap.size 4 1 (.slice (some ⟨G, 0, none⟩) N N) N (rowT N (tgtK 2 t y (labI t i)))) := by
     have h := HOC.out
     rw [HNE.out, show rowT N (wkTo t y l t.edges.length) = rowT N (tgtK 2 t y l) from rowT_congr fun j _ => wkTo_all HLT.out j, HLE.out] at h
     exact h
    clear HNE hbl
    go_wp2
    go_ret
    exact ⟨G, rfl, HBC.out, HRES.out⟩

end Go.Proofs.YtjoacldbgnphkaaGreatDoor

namespace Go.Proofs.YtjoacldbgnphkaaGreatDoor
open Go Go.RowKit


theorem info_strS : (Tryz.prog.info? 9).map (fun i => (i.zero, i.size, i.bytes)) = some (some (.string ⟨#[]⟩), 1, 16) := by kernel_rfl
theorem info_edgeS : (Tryz.prog.info? 66).map (fun i => (i.zero, i.size, i.bytes)) = some (some (.agg #[.int .i64 0, .int .i64 0, .int .i64 0]), 3, 24) := by kernel_rfl
def RetSatL (t : Lts) (w : World) (e : Ending) (w' : World) : Prop :=
 ∃ lv ev, e = .returned (.agg #[.int .i64 t.states, .int .i64 t.initial, lv, ev]) ∧ Below w.heap.size w w' ∧ OwnLts w.heap.size w' lv ev (satT t)
theorem own_lit0 {w : World} {k base e size : Nat} (h : w.heap[k]? = some (.cells #[] e (0, 0))) (hb : base ≤ k) : w.ownsRow base e size (.slice (some ⟨k, 0, none⟩) 0 0) 0 [] :=
 ⟨by simp, .inr ⟨k, 0, #[], rfl, hb, h, Nat.le_refl _, by simp [maxLen], by simp, by simp⟩⟩

theorem sat_results {w : World} {b : Nat} {v0 v1 v2 v3 : Value} {tmps : Array Value} (hc : tmps.getD 2 undef = .pointer (some ⟨b, 0, none⟩)) (hb : Blk w b [v0, v1, v2, v3] 32) :
  (results Tryz.f33 tmps).run Tryz.prog w = .ok (.agg #[v0, v1, v2, v3]) w := by
 have h0 := hb.cell 0 rfl
 have h1 := hb.cell 1 rfl
 have h2 := hb.cell 2 rfl
 have h3 := hb.cell 3 rfl
 simp only [Array.getD_eq_getD_getElem?] at hc
 simp [results, Tryz.results33, go_sem, hc, h0, h1, h2, h3, Result.andThen]

section
variable (W : World) (a b c : Obj)
theorem pl1 : ((W.alloc a).drew).heap[W.heap.size]? = some a := heap_alloc_new W a
theorem pl20 : (((W.alloc a).alloc b).drew).heap[W.heap.size]? = some a := (Below.heap_alloc (W.alloc a) b W.heap.size (by simp)).trans (heap_alloc_new W a)
theorem pl21 : (((W.alloc a).alloc b).drew).heap[W.heap.size + 1]? = some b := by
 have h := heap_alloc_new (W.alloc a) b
 rw [World.size_alloc] at h
 exact h
theorem pl30 : ((((W.alloc a).alloc b).alloc c).drew).heap[W.heap.size]? = some a := (Below.heap_alloc ((W.alloc a).alloc b) c W.heap.size (by simp; omega)).trans (pl20 W a b)
theorem pl31 : ((((W.alloc a).alloc b).alloc c).drew).heap[W.heap.size + 1]? = some b := (Below.heap_alloc ((W.alloc a).alloc b) c (W.heap.size + 1) (by simp)).trans (pl21 W a b)
theorem pl32 : ((((W.alloc a).alloc b).alloc c).drew).heap[W.heap.size + 1 + 1]? = some c := by
 have h := heap_alloc_new ((W.alloc a).alloc b) c
 rw [World.size_alloc, World.size_alloc] at h
 exact h
end
theorem ed_after (w : World) (a : Obj) : ((w.alloc a).alloc (.cells #[] 66 : Obj)).heap[w.heap.size + 1]? = some (.cells #[] 66 : Obj) := by
 have h := heap_alloc_new (w.alloc a) (.cells #[] 66 : Obj)
 rw [World.size_alloc] at h
 exact h
/-- How the struct variable of l16Saturate lies behind its composite literal. -/
def LitAt (W wx : World) (N LN : Nat) (I : Int) (xs : List Value) (v3 : Value) : Prop := ∃ (k ke gg cap : Nat), v3 = .pointer (some ⟨k, 0, none⟩) ∧ Below W.heap.size W wx ∧ Blk wx k [.int .i64 N, .int .i64 I, .slice (some ⟨gg, 0, none⟩) LN cap, .slice (some ⟨ke, 0, none⟩) 0 0] 32 ∧ W.heap.size ≤ k
  ∧ wx.ownsRow W.heap.size 9 1 (.slice (some ⟨gg, 0, none⟩) LN cap) LN xs ∧ wx.ownsRow W.heap.size 66 3 (.slice (some ⟨ke, 0, none⟩) 0 0) 0 []
theorem lit_sets {W w8 : World} {N LN k ke gg cap : Nat} {I : Int} {xs : List Value} (hB : Below W.heap.size W w8) (hk : w8.heap[k]? = some (.cells #[.int .i64 0, .int .i64 0, .slice none 0 0, .slice none 0 0] 32 : Obj)) (hwk : W.heap.size ≤ k) (ho : w8.ownsRow W.heap.size 9 1 (.slice (some ⟨gg, 0, none⟩) LN cap) LN xs) (he : w8.heap[ke]? = some (.cells #[] 66 : Obj)) (hke : W.heap.size ≤ ke) :
  LitAt W ((((w8.setCell ⟨k, 0, none⟩ (.int .i64 N)).setCell ⟨k, 1, none⟩ (.int .i64 I)).setCell ⟨k, 2, none⟩ (.slice (some ⟨gg, 0, none⟩) LN cap)).setCell ⟨k, 3, none⟩ (.slice (some ⟨ke, 0, none⟩) 0 0)) N LN I xs (.pointer (some ⟨k, 0, none⟩)) := by
 have hb : Blk w8 k [.int .i64 0, .int .i64 0, .slice none 0 0, .slice none 0 0] 32 := hk
 have hs : ∀ {base e size n : Nat} {v : Value} {ys : List Value}, w8.ownsRow base e size v n ys → e ≠ 32 → ((((w8.setCell ⟨k, 0, none⟩ (.int .i64 N)).setCell ⟨k, 1, none⟩ (.int .i64 I)).setCell ⟨k, 2, none⟩ (.slice (some ⟨gg, 0, none⟩) LN cap)).setCell ⟨k, 3, none⟩ (.slice (some ⟨ke, 0, none⟩) 0 0)).ownsRow base e size v n ys := fun ho he =>
  own_setsS (own_setsS (own_setsS (own_setsS ho hb he 0 _) (hb.set 0 _) he 1 _) ((hb.set 0 _).set 1 _) he 2 _) (((hb.set 0 _).set 1 _).set 2 _) he 3 _
 exact ⟨k, ke, gg, cap, rfl, (((hB.setCell hwk _).setCell hwk _).setCell hwk _).setCell hwk _, (((hb.set 0 _).set 1 _).set 2 _).set 3 _, hwk, hs ho (by decide), hs (own_lit0 he hke) (by decide)⟩
theorem lit_new {W w8 : World} {N LN ke gg cap : Nat} {I : Int} {xs : List Value} (hB : Below W.heap.size W w8) (ho : w8.ownsRow W.heap.size 9 1 (.slice (some ⟨gg, 0, none⟩) LN cap) LN xs) (he : w8.heap[ke]? = some (.cells #[] 66 : Obj)) (hke : W.heap.size ≤ ke) :
  LitAt W (w8.alloc (.cells #[.int .i64 N, .int .i64 I, .slice (some ⟨gg, 0, none⟩) LN cap, .slice (some ⟨ke, 0, none⟩) 0 0] 32)) N LN I xs (.pointer (some ⟨w8.heap.size, 0, none⟩)) :=
 ⟨w8.heap.size, ke, gg, cap, rfl, hB.alloc hB.size _, Blk.new w8 _ _, hB.size, ho.alloc _, (own_lit0 he hke).alloc _⟩
theorem lit_new2 {W w8 : World} {N LN gg cap : Nat} {I : Int} {xs : List Value} (hB : Below W.heap.size W w8) (ho : w8.ownsRow W.heap.size 9 1 (.slice (some ⟨gg, 0, none⟩) LN cap) LN xs) :
  LitAt W ((w8.alloc (.cells #[.int .i64 N, .int .i64 I, .slice (some ⟨gg, 0, none⟩) LN cap, .slice (some ⟨w8.heap.size + 1, 0, none⟩) 0 0] 32)).alloc (.cells #[] 66 : Obj)) N LN I xs (.pointer (some ⟨w8.heap.size, 0, none⟩)) :=
 ⟨w8.heap.size, w8.heap.size + 1, gg, cap, rfl, (hB.alloc hB.size _).alloc (by have := hB.size; simp; omega) _, (Blk.new w8 _ _).alloc _, hB.size, (ho.alloc _).alloc _, own_lit0 (ed_after w8 _) (by have := hB.size; omega)⟩

set_option maxRecDepth 100000 in
set_option maxHeartbeats 4000000 in
theorem l16Saturate_any (bt lo N NN : Nat) (t : Lts) (w : World) (hv : Valid t) (hN : (N : Int) = t.states) (hNN : NN = N * N) (hp : LtsPtr lo w bt t) :
  Calls Tryz.prog 33 #[.pointer (some ⟨bt, 0, none⟩)] w (RetSatL t w) := by
 have HV := Lib.hid hv
 have h1 := hv.st0
 have h2 := hv.st1
 have HNS := Lib.hid hN
 have hl12 := hv.labels.most
 have hl1 := hv.labels.pos
 have HP := Lib.hid hp
 obtain ⟨lv, ev, hpl, q0, q1, q2, q3, hls, hes⟩ := hp
 obtain ⟨al, cl, rfl, hln, hlc, hlrow⟩ := hls
 rw [← hN] at q0 h1 h2
 have hN40 : N ≤ 40 := by omega
 have hNN2 : NN ≤ 1600 := by rw [hNN]; exact Nat.le_trans (Nat.mul_le_mul hN40 hN40) (by decide)
 have HNN := Lib.hid hNN
 obtain ⟨LN, hLN⟩ : ∃ LN, LN = t.labels.length := ⟨_, rfl⟩
 rw [← hLN] at q2 hln hl1 hl12
 have HLN := Lib.hid hLN
 obtain ⟨bl, ol, rfl, -, hbl, hlcell⟩ : ∃ bl ol, al = some ⟨bl, ol, none⟩ ∧ True ∧ bl < w.heap.size ∧ ∀ j u, (t.labels.map Value.string)[j]? = some u → w.cell? ⟨bl, ol + j, none⟩ = some u := by
  rcases hlrow with h | ⟨b, o, h, -, hb, hc⟩
  ·omega
  ·refine ⟨b, o, h, trivial, hb, fun j u hj => ?_⟩
   rw [List.getElem?_map] at hj
   cases hx : t.labels[j]? with
   | none => rw [hx] at hj; cases hj
   | some x =>
    rw [hx] at hj
    simp only [Option.map_some, Option.some.injEq] at hj
    subst hj
    obtain ⟨hjl, hje⟩ := List.getElem?_eq_some_iff.1 hx
    have := hc j hjl 0 (by omega)
    simp only [encS, List.getElem?_cons_zero, Nat.mul_one, Nat.add_zero] at this
    rw [hje] at this
    exact this
 obtain ⟨W, hW⟩ : ∃ W, W = w.alloc (.cells #[.int .i64 0, .int .i64 0, .slice none 0 0, .slice none 0 0] 32) := ⟨_, rfl⟩
 obtain ⟨rb, hrb⟩ : ∃ rb, rb = w.heap.size := ⟨_, rfl⟩
 have hbW : Below w.heap.size w W := by rw [hW]; exact (Below.refl _ _).alloc (Nat.le_refl _) _
 have HRB : Hid (Blk W rb [.int .i64 0, .int .i64 0, .slice none 0 0, .slice none 0 0] 32) := by unfold Hid; rw [hW, hrb]; exact Blk.new w _ _
 have hszW : W.heap.size = rb + 1 := by rw [hW, hrb]; simp
 have HBW := Lib.hid hbW
 have HSRC : Hid (∀ X, Below W.heap.size W X → X.cell? ⟨bt, 0, none⟩ = some (.int .i64 N) ∧ X.cell? ⟨bt, 1, none⟩ = some (.int .i64 t.initial) ∧ X.cell? ⟨bt, 2, none⟩ = some (.slice (some ⟨bl, ol, none⟩) LN cl)) := fun X hX => by
  have hb := hbW.trans (hX.mono hbW.size)
  exact ⟨keeps hb hpl q0, keeps hb hpl q1, keeps hb hpl q2⟩
 have HCE : Hid (∀ X, Below W.heap.size W X → ∀ j u, (t.labels.map Value.string)[j]? = some u → X.cell? ((⟨bl, ol, none⟩ : Addr).add j) = some u) := fun X hX j u hj => by
  have hb := hbW.trans (hX.mono hbW.size)
  have hadd : (⟨bl, ol, none⟩ : Addr).add j = ⟨bl, ol + j, none⟩ := by unfold Addr.add; split <;> simp_all
  rw [hadd]
  exact keeps hb hbl (hlcell j u hj)
 have hmapl : (t.labels.map Value.string).length = LN * 1 := by rw [List.length_map, hLN, Nat.mul_one]
 obtain ⟨is, his, hsz0, hsz1, hsz2⟩ := info_parts info_strS
 have HW := Lib.hid hW
 have HRBE := Lib.hid hrb
 have HSZW := Lib.hid hszW
 have hbtW : bt < W.heap.size := by omega
 have q0W := (HSRC.out W (Below.refl _ _)).1
 have q1W := (HSRC.out W (Below.refl _ _)).2.1
 have q2W := (HSRC.out W (Below.refl _ _)).2.2
 clear hv hN hNN hlrow hLN hW hrb hbW hszW hes q0 q1 q2 q3 hlcell hlc
 go_enter Tryz.func33, Tryz.ntmps33
 go_wp2
 rw [← HW.out, ← HRBE.out]
 have hone : ∀ u ∈ t.labels.map Value.string, u.oneCell' = true := fun u hu => by
  obtain ⟨x, -, rfl⟩ := List.mem_map.1 hu
  rfl
 have hrow0 : ∀ b, (Value.slice (some ⟨W.heap.size, 0, none⟩) 0 0).ownBlock = some b → W.heap.size ≤ b := fun b e => by simp [Value.ownBlock] at e; omega
 have hrow1 : ∀ b, (Value.slice (some ⟨W.heap.size + 1, 0, none⟩) 0 0).ownBlock = some b → W.heap.size ≤ b := fun b e => by simp [Value.ownBlock] at e; omega
 have hrow2 : ∀ b, (Value.slice (some ⟨W.heap.size + 1 + 1, 0, none⟩) 0 0).ownBlock = some b → W.heap.size ≤ b := fun b e => by simp [Value.ownBlock] at e; omega
 go_cut [3] from 9 (fun v3 wx => LitAt W wx N LN t.initial (t.labels.map .string) v3)
 case first =>
  have HD : Hid (Below W.heap.size W W.drew) := (Below.refl _ _).drew
  have HD1 : Hid (∀ a, Below W.heap.size W (W.alloc a).drew) := fun a => ((Below.refl _ _).alloc (Nat.le_refl _) _).drew
  have HD2 : Hid (∀ a b, Below W.heap.size W ((W.alloc a).alloc b).drew) := fun a b => (((Below.refl _ _).alloc (Nat.le_refl _) _).alloc (by simp) _).drew
  have HD3 : Hid (∀ a b c, Below W.heap.size W (((W.alloc a).alloc b).alloc c).drew) := fun a b c => ((((Below.refl _ _).alloc (Nat.le_refl _) _).alloc (by simp) _).alloc (by simp; omega) _).drew
  go_region_held3 (fun w' => w'.cell? ⟨bt, 0, none⟩ = some (.int .i64 N) ∧ w'.cell? ⟨bt, 1, none⟩ = some (.int .i64 t.initial) ∧ w'.cell? ⟨bt, 2, none⟩ = some (.slice (some ⟨bl, ol, none⟩) LN cl))
   (first
    | with_reducible exact HSRC.out _ (Below.refl _ _)
    | with_reducible exact HSRC.out _ HD.out
    | with_reducible exact HSRC.out _ (HD1.out _)
    | with_reducible exact HSRC.out _ (HD2.out _ _)
    | with_reducible exact HSRC.out _ (HD3.out _ _ _)
    | with_reducible exact HSRC.out _ hB1
    | with_reducible exact HSRC.out _ (hB1.alloc hB1.size _)
    | with_reducible exact HSRC.out _ ((hB1.alloc hB1.size _).alloc (Nat.le_trans hB1.size (by simp)) _)
    | (with_reducible refine HSRC.out _ ((((Below.setCell ?_ ?_ _).setCell ?_ _).setCell ?_ _).setCell ?_ _) <;> first | with_reducible exact hB1 | with_reducible exact hB1.alloc hB1.size _ | with_reducible exact (hB1.alloc hB1.size _).alloc (Nat.le_trans hB1.size (by simp)) _ | (have hs9 := hB1.size; simp; done) | (have hs9 := hB1.size; simp; omega) | (have hs9 := hB1.size; omega))
    | go_keep)
   (first
    | (refine step_append_lies _ (by rfl) _ _ 22 (by rfl) W.heap.size 9 is _ 1 16 Tryz.underlying22 his hsz0 hsz1 hsz2 rfl (by omega) (.slice (some ⟨W.heap.size, 0, none⟩) 0 0) 0 [] (by rfl) (own_lit0 (by first | with_reducible exact pl1 _ _ | with_reducible exact pl20 _ _ _ | with_reducible exact pl30 _ _ _ _) (by omega)) ⟨bl, ol, none⟩ LN cl (t.labels.map .string) (by rfl) hmapl (HCE.out _ (by first | with_reducible exact HD1.out _ | with_reducible exact HD2.out _ _ | with_reducible exact HD3.out _ _ _)) hone (by omega) (by first | omega | (simp [maxLen]; omega) | simp [maxLen]) (by omega) (by first | omega | (simp; omega) | simp) _ rfl ?_; intro gg cap w1 hown hgrow hat hlt; rw [Nat.zero_add, List.nil_append] at hown; have hB1 : Below W.heap.size W w1 := (by first | with_reducible exact (HD1.out _).grown hgrow (HD1.out _).size hrow0 | with_reducible exact (HD2.out _ _).grown hgrow (HD2.out _ _).size hrow0 | with_reducible exact (HD3.out _ _ _).grown hgrow (HD3.out _ _ _).size hrow0); (try (have PA1 : Hid (w1.heap[W.heap.size + 1]? = some (.cells #[.int .i64 0, .int .i64 0, .slice none 0 0, .slice none 0 0] 32 : Obj)) := (hgrow.block (W.heap.size + 1) (by simp; try omega) (by simp [Value.ownBlock]; try omega)).trans (by first | with_reducible exact pl21 _ _ _ | with_reducible exact pl31 _ _ _ _))); (try (have PE1 : Hid (w1.heap[W.heap.size + 1]? = some (.cells #[] 66 : Obj)) := (hgrow.block (W.heap.size + 1) (by simp; try omega) (by simp [Value.ownBlock]; try omega)).trans (by first | with_reducible exact pl21 _ _ _ | with_reducible exact pl31 _ _ _ _))); (try (have bk : Blk w1 (W.heap.size + 1) [.int .i64 0, .int .i64 0, .slice none 0 0, .slice none 0 0] 32 := PA1.out; have bk2 : Blk (w1.alloc (.cells #[] 66 : Obj)) (W.heap.size + 1) [.int .i64 0, .int .i64 0, .slice none 0 0, .slice none 0 0] 32 := bk.alloc _; have zc0 := bk.cell 0 rfl; have zf0 := bk.frozen 0; have yc0 := bk2.cell 0 rfl; have yf0 := bk2.frozen 0; have zc1 := bk.cell 1 rfl; have zf1 := bk.frozen 1; have yc1 := bk2.cell 1 rfl; have yf1 := bk2.frozen 1; have zc2 := bk.cell 2 rfl; have zf2 := bk.frozen 2; have yc2 := bk2.cell 2 rfl; have yf2 := bk2.frozen 2; have zc3 := bk.cell 3 rfl; have zf3 := bk.frozen 3; have yc3 := bk2.cell 3 rfl; have yf3 := bk2.frozen 3; clear bk bk2)); (try (have PA2 : Hid (w1.heap[W.heap.size + 1 + 1]? = some (.cells #[.int .i64 0, .int .i64 0, .slice none 0 0, .slice none 0 0] 32 : Obj)) := (hgrow.block (W.heap.size + 1 + 1) (by simp; try omega) (by simp [Value.ownBlock]; try omega)).trans (by first | with_reducible exact pl32 _ _ _ _))); (try (have PE2 : Hid (w1.heap[W.heap.size + 1 + 1]? = some (.cells #[] 66 : Obj)) := (hgrow.block (W.heap.size + 1 + 1) (by simp; try omega) (by simp [Value.ownBlock]; try omega)).trans (by first | with_reducible exact pl32 _ _ _ _))); (try (have bk : Blk w1 (W.heap.size + 1 + 1) [.int .i64 0, .int .i64 0, .slice none 0 0, .slice none 0 0] 32 := PA2.out; have bk2 : Blk (w1.alloc (.cells #[] 66 : Obj)) (W.heap.size + 1 + 1) [.int .i64 0, .int .i64 0, .slice none 0 0, .slice none 0 0] 32 := bk.alloc _; have zc0 := bk.cell 0 rfl; have zf0 := bk.frozen 0; have yc0 := bk2.cell 0 rfl; have yf0 := bk2.frozen 0; have zc1 := bk.cell 1 rfl; have zf1 := bk.frozen 1; have yc1 := bk2.cell 1 rfl; have yf1 := bk2.frozen 1; have zc2 := bk.cell 2 rfl; have zf2 := bk.frozen 2; have yc2 := bk2.cell 2 rfl; have yf2 := bk2.frozen 2; have zc3 := bk.cell 3 rfl; have zf3 := bk.frozen 3; have yc3 := bk2.cell 3 rfl; have yf3 := bk2.frozen 3; clear bk bk2)); have Z1 := HSRC.out _ hB1)
    | (refine step_append_lies _ (by rfl) _ _ 22 (by rfl) W.heap.size 9 is _ 1 16 Tryz.underlying22 his hsz0 hsz1 hsz2 rfl (by omega) (.slice (some ⟨W.heap.size + 1, 0, none⟩) 0 0) 0 [] (by rfl) (own_lit0 (by first | with_reducible exact pl21 _ _ _ | with_reducible exact pl31 _ _ _ _) (by omega)) ⟨bl, ol, none⟩ LN cl (t.labels.map .string) (by rfl) hmapl (HCE.out _ (by first | with_reducible exact HD1.out _ | with_reducible exact HD2.out _ _ | with_reducible exact HD3.out _ _ _)) hone (by omega) (by first | omega | (simp [maxLen]; omega) | simp [maxLen]) (by omega) (by first | omega | (simp; omega) | simp) _ rfl ?_; intro gg cap w1 hown hgrow hat hlt; rw [Nat.zero_add, List.nil_append] at hown; have hB1 : Below W.heap.size W w1 := (by first | with_reducible exact (HD1.out _).grown hgrow (HD1.out _).size hrow1 | with_reducible exact (HD2.out _ _).grown hgrow (HD2.out _ _).size hrow1 | with_reducible exact (HD3.out _ _ _).grown hgrow (HD3.out _ _ _).size hrow1); (try (have PA0 : Hid (w1.heap[W.heap.size]? = some (.cells #[.int .i64 0, .int .i64 0, .slice none 0 0, .slice none 0 0] 32 : Obj)) := (hgrow.block (W.heap.size) (by simp; try omega) (by simp [Value.ownBlock]; try omega)).trans (by first | with_reducible exact pl20 _ _ _ | with_reducible exact pl30 _ _ _ _))); (try (have PE0 : Hid (w1.heap[W.heap.size]? = some (.cells #[] 66 : Obj)) := (hgrow.block (W.heap.size) (by simp; try omega) (by simp [Value.ownBlock]; try omega)).trans (by first | with_reducible exact pl20 _ _ _ | with_reducible exact pl30 _ _ _ _))); (try (have bk : Blk w1 (W.heap.size) [.int .i64 0, .int .i64 0, .slice none 0 0, .slice none 0 0] 32 := PA0.out; have bk2 : Blk (w1.alloc (.cells #[] 66 : Obj)) (W.heap.size) [.int .i64 0, .int .i64 0, .slice none 0 0, .slice none 0 0] 32 := bk.alloc _; have zc0 := bk.cell 0 rfl; have zf0 := bk.frozen 0; have yc0 := bk2.cell 0 rfl; have yf0 := bk2.frozen 0; have zc1 := bk.cell 1 rfl; have zf1 := bk.frozen 1; have yc1 := bk2.cell 1 rfl; have yf1 := bk2.frozen 1; have zc2 := bk.cell 2 rfl; have zf2 := bk.frozen 2; have yc2 := bk2.cell 2 rfl; have yf2 := bk2.frozen 2; have zc3 := bk.cell 3 rfl; have zf3 := bk.frozen 3; have yc3 := bk2.cell 3 rfl; have yf3 := bk2.frozen 3; clear bk bk2)); (try (have PA2 : Hid (w1.heap[W.heap.size + 1 + 1]? = some (.cells #[.int .i64 0, .int .i64 0, .slice none 0 0, .slice none 0 0] 32 : Obj)) := (hgrow.block (W.heap.size + 1 + 1) (by simp; try omega) (by simp [Value.ownBlock]; try omega)).trans (by first | with_reducible exact pl32 _ _ _ _))); (try (have PE2 : Hid (w1.heap[W.heap.size + 1 + 1]? = some (.cells #[] 66 : Obj)) := (hgrow.block (W.heap.size + 1 + 1) (by simp; try omega) (by simp [Value.ownBlock]; try omega)).trans (by first | with_reducible exact pl32 _ _ _ _))); (try (have bk : Blk w1 (W.heap.size + 1 + 1) [.int .i64 0, .int .i64 0, .slice none 0 0, .slice none 0 0] 32 := PA2.out; have bk2 : Blk (w1.alloc (.cells #[] 66 : Obj)) (W.heap.size + 1 + 1) [.int .i64 0, .int .i64 0, .slice none 0 0, .slice none 0 0] 32 := bk.alloc _; have zc0 := bk.cell 0 rfl; have zf0 := bk.frozen 0; have yc0 := bk2.cell 0 rfl; have yf0 := bk2.frozen 0; have zc1 := bk.cell 1 rfl; have zf1 := bk.frozen 1; have yc1 := bk2.cell 1 rfl; have yf1 := bk2.frozen 1; have zc2 := bk.cell 2 rfl; have zf2 := bk.frozen 2; have yc2 := bk2.cell 2 rfl; have yf2 := bk2.frozen 2; have zc3 := bk.cell 3 rfl; have zf3 := bk.frozen 3; have yc3 := bk2.cell 3 rfl; have yf3 := bk2.frozen 3; clear bk bk2)); have Z1 := HSRC.out _ hB1)
    | (refine step_append_lies _ (by rfl) _ _ 22 (by rfl) W.heap.size 9 is _ 1 16 Tryz.underlying22 his hsz0 hsz1 hsz2 rfl (by omega) (.slice (some ⟨W.heap.size + 1 + 1, 0, none⟩) 0 0) 0 [] (by rfl) (own_lit0 (by first | with_reducible exact pl32 _ _ _ _) (by omega)) ⟨bl, ol, none⟩ LN cl (t.labels.map .string) (by rfl) hmapl (HCE.out _ (by first | with_reducible exact HD1.out _ | with_reducible exact HD2.out _ _ | with_reducible exact HD3.out _ _ _)) hone (by omega) (by first | omega | (simp [maxLen]; omega) | simp [maxLen]) (by omega) (by first | omega | (simp; omega) | simp) _ rfl ?_; intro gg cap w1 hown hgrow hat hlt; rw [Nat.zero_add, List.nil_append] at hown; have hB1 : Below W.heap.size W w1 := (by first | with_reducible exact (HD1.out _).grown hgrow (HD1.out _).size hrow2 | with_reducible exact (HD2.out _ _).grown hgrow (HD2.out _ _).size hrow2 | with_reducible exact (HD3.out _ _ _).grown hgrow (HD3.out _ _ _).size hrow2); (try (have PA0 : Hid (w1.heap[W.heap.size]? = some (.cells #[.int .i64 0, .int .i64 0, .slice none 0 0, .slice none 0 0] 32 : Obj)) := (hgrow.block (W.heap.size) (by simp; try omega) (by simp [Value.ownBlock]; try omega)).trans (by first | with_reducible exact pl20 _ _ _ | with_reducible exact pl30 _ _ _ _))); (try (have PE0 : Hid (w1.heap[W.heap.size]? = some (.cells #[] 66 : Obj)) := (hgrow.block (W.heap.size) (by simp; try omega) (by simp [Value.ownBlock]; try omega)).trans (by first | with_reducible exact pl20 _ _ _ | with_reducible exact pl30 _ _ _ _))); (try (have bk : Blk w1 (W.heap.size) [.int .i64 0, .int .i64 0, .slice none 0 0, .slice none 0 0] 32 := PA0.out; have bk2 : Blk (w1.alloc (.cells #[] 66 : Obj)) (W.heap.size) [.int .i64 0, .int .i64 0, .slice none 0 0, .slice none 0 0] 32 := bk.alloc _; have zc0 := bk.cell 0 rfl; have zf0 := bk.frozen 0; have yc0 := bk2.cell 0 rfl; have yf0 := bk2.frozen 0; have zc1 := bk.cell 1 rfl; have zf1 := bk.frozen 1; have yc1 := bk2.cell 1 rfl; have yf1 := bk2.frozen 1; have zc2 := bk.cell 2 rfl; have zf2 := bk.frozen 2; have yc2 := bk2.cell 2 rfl; have yf2 := bk2.frozen 2; have zc3 := bk.cell 3 rfl; have zf3 := bk.frozen 3; have yc3 := bk2.cell 3 rfl; have yf3 := bk2.frozen 3; clear bk bk2)); (try (have PA1 : Hid (w1.heap[W.heap.size + 1]? = some (.cells #[.int .i64 0, .int .i64 0, .slice none 0 0, .slice none 0 0] 32 : Obj)) := (hgrow.block (W.heap.size + 1) (by simp; try omega) (by simp [Value.ownBlock]; try omega)).trans (by first | with_reducible exact pl21 _ _ _ | with_reducible exact pl31 _ _ _ _))); (try (have PE1 : Hid (w1.heap[W.heap.size + 1]? = some (.cells #[] 66 : Obj)) := (hgrow.block (W.heap.size + 1) (by simp; try omega) (by simp [Value.ownBlock]; try omega)).trans (by first | with_reducible exact pl21 _ _ _ | with_reducible exact pl31 _ _ _ _))); (try (have bk : Blk w1 (W.heap.size + 1) [.int .i64 0, .int .i64 0, .slice none 0 0, .slice none 0 0] 32 := PA1.out; have bk2 : Blk (w1.alloc (.cells #[] 66 : Obj)) (W.heap.size + 1) [.int .i64 0, .int .i64 0, .slice none 0 0, .slice none 0 0] 32 := bk.alloc _; have zc0 := bk.cell 0 rfl; have zf0 := bk.frozen 0; have yc0 := bk2.cell 0 rfl; have yf0 := bk2.frozen 0; have zc1 := bk.cell 1 rfl; have zf1 := bk.frozen 1; have yc1 := bk2.cell 1 rfl; have yf1 := bk2.frozen 1; have zc2 := bk.cell 2 rfl; have zf2 := bk.frozen 2; have yc2 := bk2.cell 2 rfl; have yf2 := bk2.frozen 2; have zc3 := bk.cell 3 rfl; have zf3 := bk.frozen 3; have yc3 := bk2.cell 3 rfl; have yf3 := bk2.frozen 3; clear bk bk2)); have Z1 := HSRC.out _ hB1)
    | fail)
  all_goals (
   first
    | (have h1 := lit_sets (N := N) (I := t.initial) hB1 PA0.out (by omega) hown PE1.out (by omega); go_wp2_with fail; go_meet; case rel => exact h1)
    | (have h1 := lit_sets (N := N) (I := t.initial) hB1 PA0.out (by omega) hown PE2.out (by omega); go_wp2_with fail; go_meet; case rel => exact h1)
    | (have h1 := lit_sets (N := N) (I := t.initial) hB1 PA1.out (by omega) hown PE0.out (by omega); go_wp2_with fail; go_meet; case rel => exact h1)
    | (have h1 := lit_sets (N := N) (I := t.initial) hB1 PA1.out (by omega) hown PE2.out (by omega); go_wp2_with fail; go_meet; case rel => exact h1)
    | (have h1 := lit_sets (N := N) (I := t.initial) hB1 PA2.out (by omega) hown PE0.out (by omega); go_wp2_with fail; go_meet; case rel => exact h1)
    | (have h1 := lit_sets (N := N) (I := t.initial) hB1 PA2.out (by omega) hown PE1.out (by omega); go_wp2_with fail; go_meet; case rel => exact h1)
    | (have h1 := lit_sets (N := N) (I := t.initial) (hB1.alloc hB1.size _) ((Below.heap_alloc w1 (.cells #[] 66 : Obj) _ (Array.getElem?_eq_some_iff.1 PA0.out).1).trans PA0.out) (by omega) (hown.alloc _) (heap_alloc_new w1 (.cells #[] 66 : Obj)) hB1.size; go_wp2_with fail; go_meet; case rel => exact h1)
    | (have h1 := lit_sets (N := N) (I := t.initial) (hB1.alloc hB1.size _) ((Below.heap_alloc w1 (.cells #[] 66 : Obj) _ (Array.getElem?_eq_some_iff.1 PA1.out).1).trans PA1.out) (by omega) (hown.alloc _) (heap_alloc_new w1 (.cells #[] 66 : Obj)) hB1.size; go_wp2_with fail; go_meet; case rel => exact h1)
    | (have h1 := lit_sets (N := N) (I := t.initial) (hB1.alloc hB1.size _) ((Below.heap_alloc w1 (.cells #[] 66 : Obj) _ (Array.getElem?_eq_some_iff.1 PA2.out).1).trans PA2.out) (by omega) (hown.alloc _) (heap_alloc_new w1 (.cells #[] 66 : Obj)) hB1.size; go_wp2_with fail; go_meet; case rel => exact h1)
    | (have h1 := lit_new (N := N) (I := t.initial) hB1 hown PE0.out (by omega); go_wp2_with fail; go_meet; case rel => exact h1)
    | (have h1 := lit_new (N := N) (I := t.initial) hB1 hown PE1.out (by omega); go_wp2_with fail; go_meet; case rel => exact h1)
    | (have h1 := lit_new (N := N) (I := t.initial) hB1 hown PE2.out (by omega); go_wp2_with fail; go_meet; case rel => exact h1)
    | (have h1 := lit_new (N := N) (I := t.initial) (hB1.alloc hB1.size (.cells #[] 66 : Obj)) (hown.alloc _) (heap_alloc_new w1 (.cells #[] 66 : Obj)) hB1.size; rw [World.size_alloc] at h1; go_wp2_with fail; go_meet; case rel => exact h1)
    | (have h1 := lit_new2 (N := N) (I := t.initial) hB1 hown; go_wp2_with fail; go_meet; case rel => exact h1))
 obtain ⟨k, ke, gg, cap, rfl, hb2, hk2, hkW, hol, hoe⟩ := hcut
 obtain ⟨w2, rfl⟩ : ∃ w2 : World, w2 = wc := ⟨_, rfl⟩
 have hrk : rb ≠ k := by have := HSZW.out; omega
 have HSA : Hid (SatAt W.heap.size w2 rb k N t.initial (some ⟨gg, 0, none⟩) LN cap t.labels (satE t 0) 0 (some ⟨ke, 0, none⟩) 0) := ⟨rfl, HRB.out.below hb2, hk2, hol, hoe⟩
 have hsW := HBW.out.size
 have HB2 := Lib.hid hb2
 have HL := Lib.hid (l16Still_any bt lo N NN t w2 HV.out HNS.out HNN.out (HP.out.below (HBW.out.trans (hb2.mono hsW))))
 have HRK := Lib.hid hrk
 have hs2 : W.heap.size ≤ w2.heap.size := hb2.size
 have hSN : t.states.toNat = N := by have := HNS.out; omega
 have HSN := Lib.hid hSN
 have HLAB : Hid (∀ i, i < LN → i < t.labels.length) := fun i h => by rw [← HLN.out]; exact h
 clear hb2 hk2 hol hoe q0W q1W q2W hmapl hone hrow0 hrow1 hrow2 hsz0 hsz1 hsz2 his hrk hSN
 obtain ⟨i3, hi3, hz30, hz31, hz32⟩ := info_parts info_edgeS
 go_wp2_with fail
 refine Calls.mono HL.out ?_
 rintro e w3 ⟨G, rfl, hb3, hom⟩
 have HB3 : Hid (Below W.heap.size W w3) := HB2.out.trans (hb3.mono hs2)
 have HS3 := Lib.hid (HSA.out.below hb3)
 have HM3 : Hid (OwnM W.heap.size w3 G N NN (stillM t)) := own_lower hom hs2
 have hG : W.heap.size ≤ G := (HM3.out.lt G rfl).1
 clear hb3 hom HL HSA HB2 hs2
 go_wp2
 go_loopw [5] (fun v5 wr => ∃ (x EL : Nat) (p : Option Addr) (c : Nat), x ≤ N ∧ v5 = .int .i64 x ∧ Below W.heap.size W wr ∧ SatAt W.heap.size wr rb k N t.initial (some ⟨gg, 0, none⟩) LN cap t.labels (satE t x) EL p c ∧ OwnM W.heap.size wr G N NN (stillM t)) (fun v5 _ => N - (intOf v5).toNat)
 case atStart => exact ⟨0, 0, _, 0, Nat.zero_le _, rfl, HB3.out, HS3.out, HM3.out⟩
 case round =>
  clear HB3 HS3 HM3
  obtain ⟨x, EL, p, c, hx, rfl, hbl, hsa, hom⟩ := hrel
  obtain ⟨wC, rfl⟩ : ∃ wC : World, wC = wr := ⟨_, rfl⟩
  have HBC := Lib.hid hbl
  have HSC := Lib.hid hsa
  have HMC := Lib.hid hom
  have q0 := (HSRC.out wC hbl).1
  clear hsa hom hbl
  by_cases hlx : x < N
  ·have HSC0 : Hid (SatAt W.heap.size wC rb k N t.initial (some ⟨gg, 0, none⟩) LN cap t.labels (satE t x ++ satK t x 0) EL p c) := by unfold Hid; rw [satK_zero, List.append_nil]; exact HSC.out
   clear HSC
   go_wp2
   clear q0
   go_loopw [6] (fun v6 wr => ∃ (i EL : Nat) (p : Option Addr) (c : Nat), i ≤ LN ∧ v6 = .int .i64 i ∧ Below W.heap.size W wr ∧ SatAt W.heap.size wr rb k N t.initial (some ⟨gg, 0, none⟩) LN cap t.labels (satE t x ++ satK t x i) EL p c ∧ OwnM W.heap.size wr G N NN (stillM t)) (fun v6 _ => LN - (intOf v6).toNat)
   case atStart => exact ⟨0, EL, p, c, Nat.zero_le _, rfl, HBC.out, HSC0.out, HMC.out⟩
   case round =>
    clear HBC HSC0 HMC
    obtain ⟨i, EL, p, c, hi, rfl, hbl, hsa, hom⟩ := hrel
    obtain ⟨wD, rfl⟩ : ∃ wD : World, wD = wr := ⟨_, rfl⟩
    have HBD := Lib.hid hbl
    have HSD := Lib.hid hsa
    have HMD := Lib.hid hom
    have q2 := (HSRC.out wD hbl).2.2
    have hsD := hbl.size
    clear hsa hom
    by_cases hli : i < LN
    ·have HST := Lib.hid (l16Step_any bt lo N NN G x i t wD HV.out HNS.out HNN.out hlx (HLAB.out i hli) (HP.out.below (HBW.out.trans (hbl.mono hsW))) HMD.out.bools)
     clear hbl
     go_wp2_with fail
     refine Calls.mono HST.out ?_
     rintro e wE ⟨g, rfl, hbE, hoR⟩
     have HBE : Hid (Below W.heap.size W wE) := HBD.out.trans (hbE.mono hsD)
     have HSE : Hid (SatAt W.heap.size wE rb k N t.initial (some ⟨gg, 0, none⟩) LN cap t.labels (satE t x ++ satK t x i ++ satTo t x i 0) EL p c) := by unfold Hid; rw [satTo_zero, List.append_nil]; exact HSD.out.below hbE
     have HME : Hid (OwnM W.heap.size wE G N NN (stillM t)) := owns_below HMD.out hbE
     have HRE : Hid (wE.ownsRow W.heap.size 4 1 (.slice (some ⟨g, 0, none⟩) N N) N (rowT N (tgtK 2 t x (labI t i)))) := own_lower hoR hsD
     clear hbE hoR HST HBD HSD HMD q2
     go_wp2
     go_loopw [8] (fun v8 wr => ∃ (m EL : Nat) (p : Option Addr) (c : Nat), m ≤ N ∧ v8 = .int .i64 m ∧ Below W.heap.size W wr ∧ SatAt W.heap.size wr rb k N t.initial (some ⟨gg, 0, none⟩) LN cap t.labels (satE t x ++ satK t x i ++ satTo t x i m) EL p c ∧ OwnM W.heap.size wr G N NN (stillM t) ∧ wr.ownsRow W.heap.size 4 1 (.slice (some ⟨g, 0, none⟩) N N) N (rowT N (tgtK 2 t x (labI t i)))) (fun v8 _ => N - (intOf v8).toNat)
     case atStart => exact ⟨0, EL, p, c, Nat.zero_le _, rfl, HBE.out, HSE.out, HME.out, HRE.out⟩
     case round =>
      clear HBE HSE HME HRE
      obtain ⟨m, EL, p, c, hm, rfl, hbl, hsa, hom, hor⟩ := hrel
      obtain ⟨wF, rfl⟩ : ∃ wF : World, wF = wr := ⟨_, rfl⟩
      have HBF := Lib.hid hbl
      have HSF := Lib.hid hsa
      have HMF := Lib.hid hom
      have HRF := Lib.hid hor
      have q0 := (HSRC.out wF hbl).1
      have hsF := hbl.size
      have hEL : EL ≤ 20000 := by rw [hsa.len]; exact sat_few HV.out (by rw [HSN.out]; omega) (by rw [← HLN.out]; omega) (by rw [HSN.out]; omega)
      clear hsa hom hor hbl
      by_cases hlm : m < N
      ·have hc : wF.cell? ⟨g, m, none⟩ = some (.bool (tgtK 2 t x (labI t i) m)) := by rw [HRF.out.cellAt m (by omega), rowT_get hlm]
       obtain ⟨tb, htb⟩ : ∃ tb, tb = tgtK 2 t x (labI t i) m := ⟨_, rfl⟩
       rw [← htb] at hc
       cases tb
       ·have HSS : Hid (SatAt W.heap.size wF rb k N t.initial (some ⟨gg, 0, none⟩) LN cap t.labels (satE t x ++ satK t x i ++ satTo t x i (m + 1)) EL p c) := by unfold Hid; rw [satTo_miss htb.symm]; exact HSF.out
        clear htb
        go_wp2
        go_roundw
        case rel => exact ⟨m + 1, EL, p, c, by omega, by go_num, HBF.out, HSS.out, HMF.out, HRF.out⟩
        case measure => simp [intOf]; omega
       ·obtain ⟨ES, hES⟩ : ∃ ES, ES = satE t x ++ satK t x i ++ satTo t x i m := ⟨_, rfl⟩
        rw [← hES] at HSF
        have HTT : Hid (satE t x ++ satK t x i ++ satTo t x i (m + 1) = ES ++ [⟨(x : Int), (i : Int), (m : Int)⟩]) := by
         unfold Hid
         rw [satTo_hit htb.symm, hES, ← List.append_assoc]
        clear hES
        have b3 := HSF.out.box.cell 3 rfl
        have hkl := HSF.out.box.lt
        clear htb
        go_wp2_with (at_builtin; refine wpList_append_own _ rfl _ _ 30 rfl W.heap.size 66 i3 (.agg #[.int .i64 0, .int .i64 0, .int .i64 0]) 3 24 Tryz.underlying30 hi3 hz30 hz31 hz32 rfl (by decide) _ _ _ rfl (HSF.out.eds.alloc _) ⟨wF.heap.size, 0, none⟩ 1 1 (encE ⟨(x : Int), (i : Int), (m : Int)⟩) rfl rfl ?c1 ?c2 ?c3 ?c4 ?c5 ?_)
        case c1 => exact World.news_of_block (cs := #[.int .i64 x, .int .i64 i, .int .i64 m]) (t := 66) (fr := (0, 0)) (heap_alloc_new wF _)
        case c2 => intro u hu; simp [encE] at hu; rcases hu with rfl | rfl | rfl <;> rfl
        case c3 => first | omega | (simp [maxLen]; omega)
        case c4 => first | omega | (simp; omega)
        case c5 => first | omega | (simp; omega)
        intro v' w4 ho4 hg4 _
        have hal : Below wF.heap.size wF (wF.alloc (.cells #[.int .i64 x, .int .i64 i, .int .i64 m] 66)) := (Below.refl _ _).alloc (Nat.le_refl _) _
        obtain ⟨p4, c4, rfl, -, -⟩ := owns_slice ho4
        obtain ⟨hb4, hs4, hown, -⟩ := (HSF.out.below hal).push HRK.out hg4 ho4
        have HB4 : Hid (Below W.heap.size W w4) := (HBF.out.trans (hal.mono hsF)).grown hg4 (by simp; omega) (fun b e => (HSF.out.eds.lt b e).1)
        have HS4 : Hid (SatAt W.heap.size (w4.setCell ⟨k, 3, none⟩ (.slice p4 (EL + 1) c4)) rb k N t.initial (some ⟨gg, 0, none⟩) LN cap t.labels (satE t x ++ satK t x i ++ satTo t x i (m + 1)) (EL + 1) p4 c4) := by
         unfold Hid
         rw [HTT.out]
         exact hs4
        have HM4 : Hid (OwnM W.heap.size (w4.setCell ⟨k, 3, none⟩ (.slice p4 (EL + 1) c4)) G N NN (stillM t)) := hown (owns_below HMF.out hal) (by decide) (by decide)
        have HR4 : Hid ((w4.setCell ⟨k, 3, none⟩ (.slice p4 (EL + 1) c4)).ownsRow W.heap.size 4 1 (.slice (some ⟨g, 0, none⟩) N N) N (rowT N (tgtK 2 t x (labI t i)))) := hown (owns_below HRF.out hal) (by decide) (by decide)
        have o34 := hb4.cell 3 rfl
        have o35 := hb4.frozen 3
        have HB5 : Hid (Below W.heap.size W (w4.setCell ⟨k, 3, none⟩ (.slice p4 (EL + 1) c4))) := HB4.out.setCell hkW _
        clear ho4 hg4 hal hb4 hs4 hown b3
        go_wp2
        go_roundw
        case rel => exact ⟨m + 1, EL + 1, p4, c4, by omega, by go_num, HB5.out, HS4.out, HM4.out, HR4.out⟩
        case measure => simp [intOf]; omega
      ·have HSS : Hid (SatAt W.heap.size wF rb k N t.initial (some ⟨gg, 0, none⟩) LN cap t.labels (satE t x ++ satK t x (i + 1)) EL p c) := by
        have hmn : m = N := by omega
        have h := HSF.out
        rw [hmn, List.append_assoc] at h
        unfold Hid
        rw [satK_succ]
        unfold satR
        rw [HSN.out]
        exact h
       go_wp2
       go_roundw
       case rel => exact ⟨i + 1, EL, p, c, by omega, by go_num, HBF.out, HSS.out, HMF.out⟩
       case measure => simp [intOf]; omega
    ·have HSS : Hid (SatAt W.heap.size wD rb k N t.initial (some ⟨gg, 0, none⟩) LN cap t.labels (satE t (x + 1)) EL p c) := by
      have hin : i = t.labels.length := by rw [← HLN.out]; omega
      have h := HSD.out
      rw [hin] at h
      unfold Hid
      rw [satE_succ]
      exact h
     clear hbl
     go_wp2
     go_roundw
     case rel => exact ⟨x + 1, EL, p, c, by omega, by go_num, HBD.out, HSS.out, HMD.out⟩
     case measure => simp [intOf]; omega
  ·have hxn : x = N := by omega
   have HSX : Hid (SatAt W.heap.size wC rb k N t.initial (some ⟨gg, 0, none⟩) LN cap t.labels (satT t).edges EL p c) := by
    have h := HSC.out
    rw [hxn] at h
    show SatAt _ _ _ _ _ _ _ _ _ _ (satE t t.states.toNat) _ _ _
    rw [HSN.out]
    exact h
   have o0 := HSX.out.box.cell 0 rfl
   have o1 := HSX.out.box.cell 1 rfl
   have o2 := HSX.out.box.cell 2 rfl
   have o3 := HSX.out.box.cell 3 rfl
   have r0 := HSX.out.res.cell 0 rfl
   have r1 := HSX.out.res.cell 1 rfl
   have r2 := HSX.out.res.cell 2 rfl
   have r3 := HSX.out.res.cell 3 rfl
   have s0 := HSX.out.res.frozen 0
   have s1 := HSX.out.res.frozen 1
   have s2 := HSX.out.res.frozen 2
   have s3 := HSX.out.res.frozen 3
   clear hxn HSC
   go_wp2
   refine bodyPost_ret (sat_results rfl ((((HSX.out.res.set 0 _).set 1 _).set 2 _).set 3 _)) rfl ?_
   have hwr : w.heap.size ≤ rb := by rw [HRBE.out]; exact Nat.le_refl _
   refine ⟨_, _, by rw [HNS.out], ((((HBW.out.trans (HBC.out.mono hsW)).setCell hwr _).setCell hwr _).setCell hwr _).setCell hwr _, ?_, ?_⟩
   ·show World.ownsRow _ _ _ _ _ t.labels.length _
    rw [← HLN.out]
    exact own_lower (own_setsS (own_setsS (own_setsS (own_setsS HSX.out.lab HSX.out.res (by decide) 0 _) (HSX.out.res.set 0 _) (by decide) 1 _) ((HSX.out.res.set 0 _).set 1 _) (by decide) 2 _) (((HSX.out.res.set 0 _).set 1 _).set 2 _) (by decide) 3 _) hsW
   ·rw [← HSX.out.len]
    exact own_lower (own_setsS (own_setsS (own_setsS (own_setsS HSX.out.eds HSX.out.res (by decide) 0 _) (HSX.out.res.set 0 _) (by decide) 1 _) ((HSX.out.res.set 0 _).set 1 _) (by decide) 2 _) (((HSX.out.res.set 0 _).set 1 _).set 2 _) (by decide) 3 _) hsW

end Go.Proofs.YtjoacldbgnphkaaGreatDoor
