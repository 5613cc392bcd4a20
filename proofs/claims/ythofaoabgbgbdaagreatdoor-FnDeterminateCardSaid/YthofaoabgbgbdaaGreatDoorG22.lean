/-
  The reference's l12Close: what internal edges reach, by sweeps over a list of truth values.
  The reference's l12First and l12Next: the first set, the set behind a label.
  Cells of rows of texts; what the element types of three lists are.
  The reference's l12Sets: the deterministic system of a system, with the sets, or that it is too large.
  lts over the labels of the system that was searched.
-/
import Derived.Test.YthofaoabgbgbdaaGreatDoorG21
import Derived.Test.YthofaoabgbgbdaaGreatDoorG14
import Derived.Test.YthofaoabgbgbdaaGreatDoorG2
import Derived.Test.YthofaoabgbgbdaaGreatDoorG7
import Derived.Test.YthofaoabgbgbdaaGreatDoorG10
import Derived.Maps.AppendAt
import Derived.Handy
import Derived.Test.YthofaoabgbgbdaaGreatDoorG9
namespace Go.Proofs.YthofaoabgbgbdaaGreatDoor
open Go Go.RowKit

/-- What holds of the marks ahead of a sweep. -/
structure CloseRel (t : Lts) (l : List Bool) (N B g : Nat) (w0 wr : World) (gk : Nat) (good : List Bool) (b : Bool) : Prop where
 len : good.length = N
 ok : CoOk (tauPairs t) (markB l) good
 done : b = false → CoDone (tauPairs t) good
 left : 2 * falses good + b.toNat ≤ gk
 below : Below w0.heap.size w0 wr
 own : wr.ownsRow B 4 1 (.slice (some ⟨g, 0, none⟩) N N) N (good.map Value.bool)

theorem tauPairs_len (t : Lts) : (tauPairs t).length = t.edges.length := List.length_map _
theorem tauPairs_get {t : Lts} {k : Nat} (h : k < (tauPairs t).length) (h' : k < t.edges.length) : (tauPairs t)[k] = tauPair t.edges[k] := List.getElem_map _

set_option maxRecDepth 100000 in
set_option maxHeartbeats 4000000 in
theorem l12Close_any (p lo g N : Nat) (t : Lts) (l : List Bool) (w0 w : World) (hv : Valid t) (hl : l.length = N) (hN : (N : Int) = t.states) (hp : LtsPtr lo w0 p t) (hb : Below w0.heap.size w0 w)
  (ho : w.ownsRow w0.heap.size 4 1 (.slice (some ⟨g, 0, none⟩) N N) N (l.map Value.bool)) :
  Calls Tryz.prog 99 #[.pointer (some ⟨p, 0, none⟩), .slice (some ⟨g, 0, none⟩) N N] w fun e w' => e = .returned (.tuple #[]) ∧ Below w0.heap.size w0 w'
   ∧ ∃ good : List Bool, good.length = N ∧ (∀ x, inL good x ↔ clos t (inL l) x) ∧ w'.ownsRow w0.heap.size 4 1 (.slice (some ⟨g, 0, none⟩) N N) N (good.map Value.bool) := by
 have HV := Lib.hid hv
 have HN := Lib.hid hN
 obtain ⟨lv, ev, hpl, -, -, -, q3, -, he⟩ := hp
 obtain ⟨ae, ce, rfl, hen, hec, hrow⟩ := he
 have HQ3 := Lib.hid q3
 have HR := Lib.hid hrow
 have hmost := hv.most
 have hNs : N ≤ 40 := by have := hv.st1; omega
 have HB := Lib.hid hb
 have HO := Lib.hid ho
 have hg0 : w0.heap.size ≤ g := (ho.lt _ rfl).1
 obtain ⟨B, hB⟩ : ∃ B, B = w0.heap.size := ⟨_, rfl⟩
 rw [← hB] at HO hg0 ⊢
 have HBE := Lib.hid hB
 clear hv hN hb ho q3 hrow hB
 go_enter Tryz.func99, Tryz.ntmps99
 go_wp2
 go_loopg [4] (2 * N + 1) (fun gk v4 w4 => ∃ (good : List Bool) (b : Bool), v4 = .bool b ∧ CloseRel t l N B g w0 w4 gk good b)
 case atStart =>
  refine ⟨l, true, rfl, hl, markB_ok t l, (fun h => by cases h), ?_, HB.out, HO.out⟩
  have := falses_le l; simp; omega
 case round =>
  obtain ⟨good, b, rfl, hrel⟩ := hrel
  have HG := Lib.hid hrel
  have hgl := hrel.len
  clear hrel HO HB
  cases b
  ·go_wp2
   go_end0
   exact ⟨rfl, by rw [HBE.out]; exact HG.out.below, good, hgl, fun x => rest_clos HV.out HG.out.ok (HG.out.done rfl) x, HG.out.own⟩
  ·go_wp2
   go_loopw [4, 5] (fun v4 v5 w5 => ∃ (k : Nat) (more : Bool) (good5 : List Bool), v4 = .bool more ∧ v5 = .int .i64 k ∧ k ≤ t.edges.length ∧ Sweep (tauPairs t) (markB l) good good5 k more
    ∧ Below w0.heap.size w0 w5 ∧ w5.ownsRow B 4 1 (.slice (some ⟨g, 0, none⟩) N N) N (good5.map Value.bool)) (fun _ v5 _ => t.edges.length - (intOf v5).toNat)
   case atStart => exact ⟨0, false, good, rfl, rfl, Nat.zero_le _, Sweep.start HG.out.ok, HG.out.below, HG.out.own⟩
   case round =>
    obtain ⟨k, more, good5, rfl, rfl, hk, hsw, hb5, ho5⟩ := hrel
    have HSW := Lib.hid hsw
    have HB5 := Lib.hid hb5
    have HO5 := Lib.hid ho5
    have hs5 := hb5.size
    have hl5 : good5.length = N := by rw [hsw.len, hgl]
    have q3 := keeps hb5 hpl HQ3.out
    clear hsw
    by_cases hlt : k < t.edges.length
    ·obtain ⟨be, oe, rfl, -, hbe, e1, e2, e3⟩ := (HR.out.below HB5.out).edge hlt
     have hkp : k < (tauPairs t).length := by rw [tauPairs_len]; exact hlt
     have hpg := tauPairs_get hkp hlt
     have hok := HV.out.edge k hlt
     have h1 := hok.s0
     have h2 := hok.s1
     have h3 := hok.d0
     have h4 := hok.d1
     have h5 := HN.out
     obtain ⟨e, hee⟩ : ∃ e, e = t.edges[k] := ⟨_, rfl⟩
     rw [← hee] at e1 e2 e3 hpg h1 h2 h3 h4
     obtain ⟨es, hes⟩ : ∃ es : Nat, (es : Int) = e.src := ⟨e.src.toNat, by omega⟩
     obtain ⟨ed, hed⟩ : ∃ ed : Nat, (ed : Int) = e.dst := ⟨e.dst.toNat, by omega⟩
     have hsn : es < N := by omega
     have hdn : ed < N := by omega
     obtain ⟨el, hel⟩ : ∃ el, el = e.lab := ⟨_, rfl⟩
     rw [← hes] at e1
     rw [← hed] at e3
     rw [← hel] at e2
     have HP : Hid ((tauPairs t)[k] = if el = 0 then (ed, es) else (0, 0)) := by
      unfold Hid
      rw [hpg]
      unfold tauPair
      rw [← hel, show e.dst.toNat = ed by omega, show e.src.toNat = es by omega]
     clear hpg hok h1 h2 h3 h4 h5 hee hes hed hel hb5 ho5
     by_cases hl0 : el = 0
     ·subst hl0
      have HP2 : Hid ((tauPairs t)[k] = (ed, es)) := HP.out
      cases hgs : good5.getD es false
      ·have HGS := Lib.hid (getD_some (by rw [hl5]; exact hsn) hgs)
       have cs := cell_bool (HO5.out.alloc (.cells #[.int .i64 es, .int .i64 0, .int .i64 ed] 68)) hsn
       rw [hgs] at cs
       clear hgs
       go_wp2
       go_roundw
       case rel => exact ⟨k + 1, more, good5, rfl, by go_num, by omega, HSW.out.skip hkp (fun h => by rw [HP2.out, HGS.out] at h; cases h), HB5.out.alloc hs5 _, HO5.out.alloc _⟩
       case measure => simp [intOf]; omega
      ·have HGS := Lib.hid (getD_some (by rw [hl5]; exact hsn) hgs)
       have cs := cell_bool (HO5.out.alloc (.cells #[.int .i64 es, .int .i64 0, .int .i64 ed] 68)) hsn
       rw [hgs] at cs
       clear hgs
       cases hgd : good5.getD ed false
       ·have HGD := Lib.hid (getD_some (by rw [hl5]; exact hdn) hgd)
        have cd := cell_bool (HO5.out.alloc (.cells #[.int .i64 es, .int .i64 0, .int .i64 ed] 68)) hdn
        rw [hgd] at cd
        have f1 := (HO5.out.alloc (.cells #[.int .i64 es, .int .i64 0, .int .i64 ed] 68)).frozenAt ed
        clear hgd
        go_wp2
        go_roundw
        case rel =>
         refine ⟨k + 1, true, good5.set ed true, rfl, by go_num, by omega, ?_, (HB5.out.alloc hs5 _).setCell (by rw [← HBE.out]; exact hg0) _, ?_⟩
         ·have := HSW.out.turn hkp (by rw [HP2.out]; exact HGS.out) (by rw [HP2.out]; exact HGD.out)
          rw [HP2.out] at this
          exact this
         ·rw [List.map_set]; exact ((HO5.out.alloc _).stored ed (.bool true)).1
        case measure => simp [intOf]; omega
       ·have HGD := Lib.hid (getD_some (by rw [hl5]; exact hdn) hgd)
        have cd := cell_bool (HO5.out.alloc (.cells #[.int .i64 es, .int .i64 0, .int .i64 ed] 68)) hdn
        rw [hgd] at cd
        clear hgd
        go_wp2
        go_roundw
        case rel => exact ⟨k + 1, more, good5, rfl, by go_num, by omega, HSW.out.skip hkp (fun _ => by rw [HP2.out]; exact HGD.out), HB5.out.alloc hs5 _, HO5.out.alloc _⟩
        case measure => simp [intOf]; omega
     ·have HP2 : Hid ((tauPairs t)[k] = (0, 0)) := by unfold Hid; rw [HP.out, if_neg hl0]
      go_wp2
      go_roundw
      case rel => exact ⟨k + 1, more, good5, rfl, by go_num, by omega, HSW.out.skip hkp (fun h => by rw [HP2.out] at h ⊢; exact h), HB5.out.alloc hs5 _, HO5.out.alloc _⟩
      case measure => simp [intOf]; omega
    ·obtain rfl : k = t.edges.length := by omega
     have HSE : Hid (Sweep (tauPairs t) (markB l) good good5 (tauPairs t).length more) := by unfold Hid; rw [tauPairs_len]; exact HSW.out
     clear hb5 ho5
     go_wp2
     go_roundg (2 * falses good5 + more.toNat)
     case measure =>
      have h1 := HG.out.left
      cases more
      ·have h2 := (HSE.out.no rfl).1
       rw [h2]
       simp only [Bool.toNat_true, Bool.toNat_false] at *
       omega
      ·have h2 := HSE.out.yes rfl
       simp only [Bool.toNat_true] at *
       omega
     case rel =>
      refine ⟨good5, more, rfl, hl5, HSE.out.ok, (fun h => ?_), Nat.le_refl _, HB5.out, HO5.out⟩
      subst h
      exact HSE.out.done

end Go.Proofs.YthofaoabgbgbdaaGreatDoor

namespace Go.Proofs.YthofaoabgbgbdaaGreatDoor
open Go Go.RowKit

theorem truesTo_is (l : List Bool) : IsSet (inL l) (truesTo l l.length) where
 mem x := by
  unfold truesTo inL
  rw [List.mem_map]
  constructor
  ·rintro ⟨i, hi, rfl⟩
   rw [List.mem_filter, List.mem_range] at hi
   refine ⟨by omega, ?_⟩
   rw [Int.toNat_natCast]
   exact getD_some hi.1 hi.2
  ·rintro ⟨h0, h1⟩
   have hlt := (List.getElem?_eq_some_iff.1 h1).1
   refine ⟨x.toNat, ?_, by omega⟩
   rw [List.mem_filter, List.mem_range]
   refine ⟨hlt, ?_⟩
   rw [List.getD_eq_getElem?_getD, h1]
   rfl
 asc := by
  unfold truesTo
  rw [List.pairwise_map]
  exact List.Pairwise.imp (fun h => by omega) (List.Pairwise.filter _ List.pairwise_lt_range)
theorem clos.congr {t : Lts} {S Q : Int → Prop} (h : ∀ x, S x ↔ Q x) (x : Int) : clos t S x ↔ clos t Q x := by
 have : S = Q := funext fun x => propext (h x)
 rw [this]
set_option maxRecDepth 100000 in
set_option maxHeartbeats 2000000 in
theorem l12First_any (p lo : Nat) (t : Lts) (w : World) (hv : Valid t) (hp : LtsPtr lo w p t) : Calls Tryz.prog 54 #[.pointer (some ⟨p, 0, none⟩)] w (MadeNums (firstS t) w) := by
 have HV := Lib.hid hv
 have HP := Lib.hid hp
 have hst1 := hv.st0
 have hst2 := hv.st1
 obtain ⟨lv, ev, hpl, q0, q1, -⟩ := hp
 obtain ⟨N, hN⟩ : ∃ N : Nat, (N : Int) = t.states := ⟨t.states.toNat, by omega⟩
 have hNN : t.states.toNat = N := by omega
 have HN := Lib.hid hN
 obtain ⟨w1, hw1⟩ : ∃ w1, w1 = w.alloc (.cells #[.int .i64 t.initial] 2) := ⟨_, rfl⟩
 have HB1 : Hid (Below w.heap.size w w1) := by unfold Hid; rw [hw1]; exact (Below.refl _ _).alloc (Nat.le_refl _) _
 have HS1 : Hid (SliceK 1 encI w.heap.size w1 (.slice (some ⟨w.heap.size, 0, none⟩) 1 1) [t.initial]) := by
  unfold Hid
  rw [hw1]
  exact SliceK.of_owns (enc := encI) (e := 2) (fun _ => rfl) rfl (by rw [flat_encI]; exact World.ownsRow_lit (size := 1) w #[.int .i64 t.initial] 1 (Nat.le_refl _) (by decide) rfl)
 have HC := Lib.hid (l12Marks_any p lo w.heap.size t _ [t.initial] w1 hst1 hst2 (fun x hx => by rw [List.mem_singleton] at hx; subst hx; exact ⟨hv.in0, hv.in1⟩) (HP.out.below HB1.out) HS1.out)
 rw [hNN] at HC
 clear hv hN hNN
 go_enter Tryz.func54, Tryz.ntmps54
 go_wp2_with fail
 rw [← hw1]
 refine Calls.mono HC.out ?_
 rintro e2 w2 ⟨g, l, rfl, hm, hb2, ho2⟩
 have HM := Lib.hid hm
 have HB2 := Lib.hid hb2
 have HCL := Lib.hid (l12Close_any p lo g N t l w1 w2 HV.out hm.1 HN.out (HP.out.below HB1.out) hb2 ho2)
 clear hm hb2 ho2 HC
 go_wp2_with fail
 refine Calls.mono HCL.out ?_
 rintro e3 w3 ⟨rfl, hb3, good, hgl, hgc, ho3⟩
 have HGC := Lib.hid hgc
 have HB3 := Lib.hid (HB1.out.trans (hb3.mono HB1.out.size))
 have HS3 := Lib.hid (SliceK.of_owns (enc := encB) (e := 4) (xs := good) encB_len hgl.symm (by rw [flat_encB]; exact ho3))
 have HC4 := Lib.hid (l14List_any w1.heap.size _ good w3 (by have := HN.out; omega) HS3.out)
 clear hb3 hgc ho3 HCL
 go_wp2_with fail
 refine Calls.mono HC4.out ?_
 rintro e4 w4 ⟨v4, rfl, hb4, ho4⟩
 have hset : truesTo good good.length = firstS t := by
  refine (truesTo_is good).unique ((firstS_is HV.out).congr fun x => ?_)
  rw [HGC.out x]
  refine (clos.congr (fun y => ?_) x).symm
  rw [HM.out.2 y, List.mem_singleton]
 have HO4 := Lib.hid (own_lower ho4 HB3.out.size)
 have HB4 := Lib.hid (HB3.out.trans (hb4.mono HB3.out.size))
 rw [hset] at HO4
 clear hb4 ho4 HC4 hset
 go_wp2
 go_ret
 exact ⟨_, rfl, HB4.out, HO4.out⟩

/-- True just at what the first j edges with the number k lead to from cur. -/
def BehindTo (t : Lts) (cur : List Int) (k : Int) (n j : Nat) (l : List Bool) : Prop := l.length = n ∧ ∀ x, inL l x ↔ ∃ e ∈ t.edges.take j, e.lab = k ∧ e.src ∈ cur ∧ e.dst = x
theorem BehindTo.start (t : Lts) (cur : List Int) (k : Int) (n : Nat) : BehindTo t cur k n 0 (List.replicate n false) :=
 ⟨List.length_replicate, fun x => ⟨fun h => by have := ((MarkOf.start n).2 x).1 h; simp at this, fun ⟨e, he, _⟩ => by simp at he⟩⟩
theorem BehindTo.skip {t : Lts} {cur : List Int} {k : Int} {n j : Nat} {l : List Bool} (h : BehindTo t cur k n j l) (hj : j < t.edges.length) (hno : ¬ (t.edges[j].lab = k ∧ t.edges[j].src ∈ cur)) : BehindTo t cur k n (j + 1) l := by
 refine ⟨h.1, fun x => ?_⟩
 rw [h.2 x, List.take_succ_eq_append_getElem hj]
 constructor
 ·rintro ⟨e, he, r⟩
  exact ⟨e, List.mem_append.2 (.inl he), r⟩
 ·rintro ⟨e, he, h1, h2, h3⟩
  rcases List.mem_append.1 he with he | he
  ·exact ⟨e, he, h1, h2, h3⟩
  ·rw [List.mem_singleton] at he
   subst he
   exact absurd ⟨h1, h2⟩ hno
theorem BehindTo.turn {t : Lts} {cur : List Int} {k : Int} {n j : Nat} {l : List Bool} (h : BehindTo t cur k n j l) (hj : j < t.edges.length) (h1 : t.edges[j].lab = k) (h2 : t.edges[j].src ∈ cur) {d : Nat} (hd : (d : Int) = t.edges[j].dst) (hn : d < n) :
  BehindTo t cur k n (j + 1) (l.set d true) := by
 refine ⟨by rw [List.length_set]; exact h.1, fun x => ?_⟩
 rw [List.take_succ_eq_append_getElem hj]
 unfold inL
 rw [set_true_get (by have := h.1; omega)]
 constructor
 ·rintro ⟨hy, h3 | h3⟩
  ·exact ⟨_, List.mem_append.2 (.inr (List.mem_singleton.2 rfl)), h1, h2, by omega⟩
  ·obtain ⟨e, he, r⟩ := (h.2 x).1 ⟨hy, h3⟩
   exact ⟨e, List.mem_append.2 (.inl he), r⟩
 ·rintro ⟨e, he, h3, h4, h5⟩
  rcases List.mem_append.1 he with he | he
  ·have := (h.2 x).2 ⟨e, he, h3, h4, h5⟩
   exact ⟨this.1, .inr this.2⟩
  ·rw [List.mem_singleton] at he
   subst he
   exact ⟨by omega, .inl (by omega)⟩

set_option maxRecDepth 100000 in
set_option maxHeartbeats 4000000 in
theorem l12Next_any (p lo lo2 : Nat) (t : Lts) (v : Value) (cur : List Int) (q : Int) (w : World) (hv : Valid t) (hp : LtsPtr lo w p t) (hs : SliceK 1 encI lo2 w v cur) :
  Calls Tryz.prog 55 #[.pointer (some ⟨p, 0, none⟩), v, .int .i64 q] w (MadeNums (nextS t cur q) w) := by
 have HV := Lib.hid hv
 have HP := Lib.hid hp
 have HS := Lib.hid hs
 have hst1 := hv.st0
 have hst2 := hv.st1
 have hmost := hv.most
 obtain ⟨lv, ev, hpl, q0, -, -, q3, -, he⟩ := hp
 obtain ⟨ae, ce, rfl, hen, hec, hrow⟩ := he
 obtain ⟨a, cap, rfl, hn, hcap, -⟩ := hs
 obtain ⟨N, hN⟩ : ∃ N : Nat, (N : Int) = t.states := ⟨t.states.toNat, by omega⟩
 rw [← hN] at q0 hst1 hst2
 have HN := Lib.hid hN
 have HQ3 := Lib.hid q3
 have HR := Lib.hid hrow
 obtain ⟨ib, hib, hzb0, hzb1, hzb2⟩ := info_parts info_bool16
 clear hv hN hrow
 go_enter Tryz.func55, Tryz.ntmps55
 go_wp2_with (at_make; refine wpList_make_full _ rfl _ _ 58 rfl w.heap.size 4 ib _ 1 Tryz.underlying58 hib hzb0 hzb1 .i64 .i64 _ _ N rfl rfl rfl rfl ?_ ?_ ?_ ?_)
 ·rw [hzb2]; omega
 ·simp [maxLen]; omega
 ·exact Nat.le_refl _
 intro w1 ho hg
 rw [toList_madeCells_one] at ho
 obtain ⟨G, hG⟩ : ∃ G, G = w.heap.size := ⟨_, rfl⟩
 have HB1 : Hid (Below w.heap.size w w1) := (Below.refl _ w).grown hg (Nat.le_refl _) (fun _ h => by cases h)
 rw [← hG] at ho ⊢
 have HO : Hid (w1.ownsRow G 4 1 (.slice (some ⟨G, 0, none⟩) N N) N ((List.replicate N false).map Value.bool)) := by
  unfold Hid; simpa using ho
 have HG := Lib.hid hG
 clear ho hg hG hib hzb0 hzb1 hzb2 q0 q3
 go_wp2
 go_loopw [8] (fun i wr => ∃ (k : Nat) (l : List Bool), k ≤ t.edges.length ∧ i = .int .i64 k ∧ BehindTo t cur q N k l ∧ Below w.heap.size w wr ∧ wr.ownsRow G 4 1 (.slice (some ⟨G, 0, none⟩) N N) N (l.map Value.bool)) (fun i _ => t.edges.length - (intOf i).toNat)
 case atStart => exact ⟨0, List.replicate N false, Nat.zero_le _, rfl, BehindTo.start t cur q N, HB1.out, HO.out⟩
 case round =>
  clear HO HB1
  obtain ⟨k, l, hk, rfl, hm, hbl, ho⟩ := hrel
  have HM := Lib.hid hm
  have HBL := Lib.hid hbl
  have HO := Lib.hid ho
  have hll := hm.1
  have q3 := keeps hbl hpl HQ3.out
  clear hbl ho hm
  by_cases hlt : k < t.edges.length
  ·obtain ⟨be, oe, rfl, -, hbe, e1, e2, e3⟩ := (HR.out.below HBL.out).edge hlt
   have hok := HV.out.edge k hlt
   have h3 := hok.d0
   have h4 := hok.d1
   have h5 := HN.out
   obtain ⟨e, hee⟩ : ∃ e, e = t.edges[k] := ⟨_, rfl⟩
   rw [← hee] at e1 e2 e3 h3 h4
   have HE := Lib.hid hee
   obtain ⟨ed, hed⟩ : ∃ ed : Nat, (ed : Int) = e.dst := ⟨e.dst.toNat, by omega⟩
   have hdn : ed < N := by omega
   rw [← hed] at e3
   have HED := Lib.hid hed
   obtain ⟨es, hes⟩ : ∃ es, es = e.src := ⟨_, rfl⟩
   obtain ⟨el, hel⟩ : ∃ el, el = e.lab := ⟨_, rfl⟩
   rw [← hes] at e1
   rw [← hel] at e2
   have HES := Lib.hid hes
   have HEL := Lib.hid hel
   clear hok h3 h4 h5 hee hed hes hel
   by_cases hq : el = q
   ·subst hq
    have HH := Lib.hid (l00Has_any lo2 _ cur es wr (HS.out.below HBL.out))
    obtain ⟨c, hc⟩ : ∃ c, c = cur.contains es := ⟨_, rfl⟩
    rw [← hc] at HH
    have HC := Lib.hid hc
    clear hc
    go_wp2_with fail
    refine Calls.mono HH.out ?_
    rintro e0 w2 ⟨rfl, hb2⟩
    have HB2 := Lib.hid (HBL.out.trans (hb2.mono HBL.out.size))
    have HO1 := Lib.hid (owns_below HO.out hb2)
    replace q3 := keeps hb2 (by have := HBL.out.size; omega) q3
    have hbe2 : be < w2.heap.size := Nat.lt_of_lt_of_le hbe hb2.size
    replace e3 := keeps hb2 hbe e3
    clear HH hb2 e1 e2 HBL HO
    cases c
    ·go_wp2
     go_roundw
     case rel =>
      refine ⟨k + 1, l, by omega, by go_num, HM.out.skip hlt (fun h => ?_), HB2.out, HO1.out⟩
      rw [← HE.out, ← HES.out] at h
      have h2 := HC.out
      rw [List.contains_iff_mem.2 h.2] at h2
      cases h2
     case measure => simp [intOf]; omega
    ·have HO2 := Lib.hid (HO1.out.stored ed (.bool true)).1
     have c2 := cell_bool HO1.out hdn
     have c3 := HO1.out.frozenAt ed
     go_wp2
     go_roundw
     case rel =>
      refine ⟨k + 1, l.set ed true, by omega, by go_num, ?_, HB2.out.setCell (by rw [HG.out]; exact Nat.le_refl _) _, ?_⟩
      ·refine HM.out.turn hlt ?_ ?_ ?_ hdn
       ·rw [← HE.out]; exact HEL.out.symm
       ·rw [← HE.out, ← HES.out]; exact List.contains_iff_mem.1 HC.out.symm
       ·rw [← HE.out]; exact HED.out
      ·rw [List.map_set]; exact HO2.out
     case measure => simp [intOf]; omega
   ·go_wp2
    go_roundw
    case rel =>
     refine ⟨k + 1, l, by omega, by go_num, HM.out.skip hlt (fun h => hq ?_), HBL.out, HO.out⟩
     rw [← HE.out, ← HEL.out] at h
     exact h.1
    case measure => simp [intOf]; omega
  ·obtain rfl : k = t.edges.length := by omega
   have HCL := Lib.hid (l12Close_any p lo G N t l w wr HV.out hll HN.out HP.out HBL.out (by rw [← HG.out]; exact HO.out))
   go_wp2_with fail
   refine Calls.mono HCL.out ?_
   rintro e3 w3 ⟨rfl, hb3, good, hgl, hgc, ho3⟩
   have HGC := Lib.hid hgc
   have HB3 := Lib.hid hb3
   have HS3 := Lib.hid (SliceK.of_owns (enc := encB) (e := 4) (xs := good) encB_len hgl.symm (by rw [flat_encB]; exact ho3))
   have HC4 := Lib.hid (l14List_any w.heap.size _ good w3 (by omega) HS3.out)
   clear hb3 hgc ho3 HCL
   go_wp2_with fail
   refine Calls.mono HC4.out ?_
   rintro e4 w4 ⟨v4, rfl, hb4, ho4⟩
   have hset : truesTo good good.length = nextS t cur q := by
    refine (truesTo_is good).unique ((nextS_is HV.out cur q).congr fun x => ?_)
    rw [HGC.out x]
    refine (clos.congr (fun y => ?_) x).symm
    rw [HM.out.2 y, List.take_length]
    rfl
   have HO4 := Lib.hid (own_lower ho4 HB3.out.size)
   have HB4 := Lib.hid (HB3.out.trans (hb4.mono HB3.out.size))
   rw [hset] at HO4
   clear hb4 ho4 HC4 hset
   go_wp2
   go_ret
   exact ⟨_, rfl, HB4.out, HO4.out⟩

end Go.Proofs.YthofaoabgbgbdaaGreatDoor

namespace Go.Proofs.YthofaoabgbgbdaaGreatDoor
open Go Go.RowKit

theorem info_ints19 : (Tryz.prog.info? 34).map (fun i => (i.zero, i.size, i.bytes)) = some (some (.slice none 0 0), 1, 24) := by kernel_rfl
theorem info_edge19 : (Tryz.prog.info? 68).map (fun i => (i.zero, i.size, i.bytes)) = some (some (.agg #[.int .i64 0, .int .i64 0, .int .i64 0]), 3, 24) := by kernel_rfl
theorem info_str19 : (Tryz.prog.info? 9).map (fun i => (i.zero, i.size, i.bytes)) = some (some (.string ⟨#[]⟩), 1, 16) := by kernel_rfl

/-- The cells of a row of texts. -/
theorem row_news {w : World} {b o : Nat} {xs : List ByteArray} (h : ∀ i (h : i < xs.length) j, j < 1 → w.cell? ⟨b, o + i * 1 + j, none⟩ = (encS xs[i])[j]?) :
  ∀ j u, (xs.map Value.string)[j]? = some u → w.cell? ((⟨b, o, none⟩ : Addr).add j) = some u := by
 intro j u hu
 rw [List.getElem?_map, Option.map_eq_some_iff] at hu
 obtain ⟨x, hx, rfl⟩ := hu
 obtain ⟨hj, rfl⟩ := List.getElem?_eq_some_iff.1 hx
 have := h j hj 0 (by omega)
 by_cases h0 : j = 0
 ·subst h0
  simpa [encS, Addr.add] using this
 ·simpa [encS, Addr.add, h0] using this
theorem add_block (b o j : Nat) : ((⟨b, o, none⟩ : Addr).add j).block = b := by unfold Addr.add; split <;> rfl

end Go.Proofs.YthofaoabgbgbdaaGreatDoor

namespace Go.Proofs.YthofaoabgbgbdaaGreatDoor
open Go Go.RowKit

/-- What l12Sets returns. -/
def RetSets (t : Lts) (w : World) (e : Ending) (w' : World) : Prop :=
 Below w.heap.size w w' ∧ ((DFull t ∧ e = .returned (.tuple #[.agg #[.int .i64 0, .int .i64 0, .slice none 0 0, .slice none 0 0], .slice none 0 0, .bool false]))
  ∨ ∃ (st : DNet) (lv vr ve : Value), DOk t st ∧ e = .returned (.tuple #[.agg #[.int .i64 st.rows.length, .int .i64 0, lv, ve], vr, .bool true]) ∧ DMem w.heap.size st vr ve w' ∧ w'.ownsRow w.heap.size 9 1 lv t.labels.length (t.labels.map .string))

theorem sets_results {w : World} {b : Nat} {v0 v1 v2 v3 : Value} {tmps : Array Value} (hc : tmps.getD 2 undef = .pointer (some ⟨b, 0, none⟩)) (hb : Blk w b [v0, v1, v2, v3] 27) :
  (results Tryz.f22 tmps).run Tryz.prog w = .ok (.tuple #[.agg #[v0, v1, v2, v3], tmps.getD 3 undef, tmps.getD 4 undef]) w := by
 have h0 := hb.cell 0 rfl
 have h1 := hb.cell 1 rfl
 have h2 := hb.cell 2 rfl
 have h3 := hb.cell 3 rfl
 simp only [Array.getD_eq_getD_getElem?] at hc
 simp [results, Tryz.results22, go_sem, hc, h0, h1, h2, h3, Result.andThen]

theorem DMem.turns {B lo hi : Nat} {st : DNet} {vr ve : Value} {w w' : World} (h : DMem B st vr ve w) (ht : Turns lo hi w w') (hb : hi ≤ B) : DMem B st vr ve w' := by
 obtain ⟨⟨vs, h1⟩, h2⟩ := h
 exact ⟨⟨vs, h1.turns ht hb⟩, owns_turns h2 ht (fun b e => .inr (Nat.le_trans hb (h2.lt b e).1))⟩
theorem DMem.lower {B B' : Nat} {st : DNet} {vr ve : Value} {w : World} (h : DMem B st vr ve w) (hb : B' ≤ B) : DMem B' st vr ve w := by
 obtain ⟨⟨vs, h1⟩, h2⟩ := h
 exact ⟨⟨vs, h1.lower hb⟩, own_lower h2 hb⟩
theorem dmid_row {t : Lts} {n : Nat} {cur : List Int} {st : DNet} (h : st.rows[n]? = some cur) (j : Nat) : (dmid t n cur st j).rows[n]? = some cur := by
 obtain ⟨⟨r, hr⟩, -⟩ := dmid_le t n cur st 0 j
 rw [Nat.zero_add, dmid_zero] at hr
 rw [hr, List.getElem?_append_left (List.getElem?_eq_some_iff.1 h).1]
 exact h

set_option maxRecDepth 100000 in
set_option maxHeartbeats 8000000 in
theorem l12Sets_any (p lo : Nat) (t : Lts) (w : World) (hv : Valid t) (hp : LtsPtr lo w p t) : Calls Tryz.prog 22 #[.pointer (some ⟨p, 0, none⟩)] w (RetSets t w) := by
 have HV := Lib.hid hv
 have HP := Lib.hid hp
 have hlpos := hv.labels.pos
 have hlmost := hv.labels.most
 obtain ⟨lv, ev, hpl, -, -, q2, -, hls, -⟩ := hp
 obtain ⟨al, cl, rfl, hln, hlc, hlrow⟩ := hls
 have HQ2 := Lib.hid q2
 have HLR := Lib.hid hlrow
 obtain ⟨w0, hw0⟩ : ∃ w0, w0 = w.alloc (.cells #[.int .i64 0, .int .i64 0, .slice none 0 0, .slice none 0 0] 27) := ⟨_, rfl⟩
 have HB0 : Hid (Below w.heap.size w w0) := by unfold Hid; rw [hw0]; exact (Below.refl _ _).alloc (Nat.le_refl _) _
 have HX0 : Hid (Blk w0 w.heap.size [.int .i64 0, .int .i64 0, .slice none 0 0, .slice none 0 0] 27) := by unfold Hid; rw [hw0]; exact Blk.new w _ _
 have hs0 : w0.heap.size = w.heap.size + 1 := by rw [hw0]; simp
 have HC := Lib.hid (l12First_any p lo t w0 hv (HP.out.below HB0.out))
 have HW0 := Lib.hid hw0
 obtain ⟨b0, hb0⟩ : ∃ b0, b0 = w.heap.size := ⟨_, rfl⟩
 rw [← hb0] at HX0 hs0
 have HZ0 := Lib.hid hb0
 obtain ⟨L, hL⟩ : ∃ L, L = t.labels.length := ⟨_, rfl⟩
 rw [← hL] at hlpos hlmost hln HQ2
 have HLL := Lib.hid hL
 have hpb : p < b0 := by rw [hb0]; exact hpl
 clear hv q2 hlrow hw0 hb0
 go_enter Tryz.func22, Tryz.ntmps22
 go_wp2_with fail
 rw [← HW0.out, ← HZ0.out]
 refine Calls.mono HC.out ?_
 rintro e1 w1 ⟨v1, rfl, hb1, ho1⟩
 have HB1 := Lib.hid hb1
 have HO1 := Lib.hid ho1
 obtain ⟨a1, c1, rfl, -, -⟩ := owns_slice ho1
 obtain ⟨B, hB⟩ : ∃ B, B = w0.heap.size := ⟨_, rfl⟩
 rw [← hB] at HB1 HO1 hs0
 have HBB := Lib.hid hB
 have hs1 : B ≤ w1.heap.size := by have := HB1.out.size; omega
 have HSB := Lib.hid hs0
 clear hb1 ho1 HC hB hL hs0
 go_wp2
 go_loopw [5, 6, 7] (fun vr ve i wr => ∃ n : Nat, i = .int .i64 n ∧ DCome t n ∧ DSmall (dAt t n) ∧ Below B w0 wr ∧ DMem B (dAt t n) vr ve wr) (fun _ _ i _ => 64 - (intOf i).toNat)
 case atStart =>
  refine ⟨0, rfl, DCome.zero t, by simp [DSmall, dAt], (HB1.out.alloc hs1 _).alloc (by simp; omega) _, ?_⟩
  have := DMem.start (W := w1) (Nat.le_refl B) hs1 HO1.out
  show DMem B ⟨[firstS t], []⟩ _ _ _
  simpa using this
 case round =>
  clear HO1 HB1 hs1
  obtain ⟨n, rfl, hcome, hsm, hbl, hmem⟩ := hrel
  have HCO := Lib.hid hcome
  have HSM := Lib.hid hsm
  have HBL := Lib.hid hbl
  have HME := Lib.hid hmem
  have HG := Lib.hid (DGood.at HV.out n)
  have hsr := hsm.1
  have hsz := hbl.size
  rw [← HBB.out] at hsz
  obtain ⟨S0, hS0⟩ : ∃ S0, S0 = dAt t n := ⟨_, rfl⟩
  rw [← hS0] at HSM HME HG hsr hmem
  have HS0 := Lib.hid hS0
  obtain ⟨⟨vs, hrows⟩, hed⟩ := hmem
  obtain ⟨av, cv, rfl, -, -⟩ := owns_slice hrows.2.1
  obtain ⟨ae, ce, rfl, -, -⟩ := owns_slice hed
  have hvl : vs.length = S0.rows.length := hrows.1
  rw [hvl] at HME ⊢
  have HRS := Lib.hid hrows
  have HED := Lib.hid hed
  clear hcome hsm hbl hS0 hrows hed
  by_cases hlt : n < S0.rows.length
  ·obtain ⟨cur, hcur⟩ : ∃ cur, S0.rows[n]? = some cur := ⟨_, List.getElem?_eq_getElem hlt⟩
   have HCUR := Lib.hid hcur
   clear hcur HRS HED hvl
   have HL2 := Lib.hid hlt
   go_wp2
   go_loopw [5, 6, 8] (fun vr ve k wr => ∃ j q : Nat, q = j + 1 ∧ k = .int .i64 q ∧ q ≤ L ∧ DSmall (dmid t n cur S0 j) ∧ Below B w0 wr ∧ DMem B (dmid t n cur S0 j) vr ve wr) (fun _ _ k _ => 64 - (intOf k).toNat)
   case atStart => exact ⟨0, 1, rfl, rfl, by omega, HSM.out, HBL.out, HME.out⟩
   case round =>
    clear HBL HME HSM hlt
    obtain ⟨j, q, hq, rfl, hql, hsm, hbl, hmem⟩ := hrel
    obtain ⟨wC, rfl⟩ : ∃ wC : World, wC = wr := ⟨_, rfl⟩
    have HBL := Lib.hid hbl
    have HSM := Lib.hid hsm
    have hszr := hbl.size
    rw [← HBB.out] at hszr
    by_cases hqL : q < L
    ·have HGM := Lib.hid (HG.out.mid HV.out HL2.out cur j (by rw [← HLL.out]; omega))
     have hcm := dmid_row (t := t) HCUR.out j
     have hM2 := hsm.1
     have hM3 := hsm.2
     obtain ⟨M, hM⟩ : ∃ M, M = dmid t n cur S0 j := ⟨_, rfl⟩
     rw [← hM] at HSM HGM hcm hmem hM2 hM3
     have HM := Lib.hid hM
     have hnm := (List.getElem?_eq_some_iff.1 hcm).1
     have hce := (List.getElem?_eq_some_iff.1 hcm).2
     have HME := Lib.hid hmem
     obtain ⟨⟨vs, hrows⟩, hed⟩ := hmem
     have hvl : vs.length = M.rows.length := hrows.1
     have HRS := Lib.hid hrows
     have HED := Lib.hid hed
     obtain ⟨bv, cv, u, rfl, hbv, hcu, hou, hsu⟩ := hrows.rowAt hnm
     obtain ⟨ae, ce, rfl, -, -⟩ := owns_slice hed
     rw [hce] at hsu
     have HSU := Lib.hid hsu
     have q2 := keeps HBL.out (by have := HSB.out; omega) (keeps HB0.out hpl HQ2.out)
     have hqi : ((q : Nat) : Int) = (j : Int) + 1 := by omega
     have HN := Lib.hid (l12Next_any p lo B t u cur q wC HV.out ((HP.out.below HB0.out).below (HBL.out.mono (by rw [HBB.out]; exact Nat.le_refl _))) HSU.out)
     rw [hqi] at HN
     have HQ := Lib.hid hqi
     obtain ⟨nx, hnx⟩ : ∃ nx, nx = nextS t cur ((j : Int) + 1) := ⟨_, rfl⟩
     rw [← hnx, ← hqi] at HN
     have HNX := Lib.hid hnx
     obtain ⟨R, hR⟩ : ∃ R, R = M.rows.length := ⟨_, rfl⟩
     rw [← hR] at hM2 hnm hvl HRS HME ⊢
     have HR := Lib.hid hR
     obtain ⟨E, hE⟩ : ∃ E, E = M.edges.length := ⟨_, rfl⟩
     rw [← hE] at hM3 HED HME ⊢
     have HE := Lib.hid hE
     have HQJ := Lib.hid hq
     clear hsm hM hcm hce hrows hed hou hsu hqi hnx hbl hR hE hq
     go_wp2_with fail
     refine Calls.mono HN.out ?_
     rintro e2 w2 ⟨v2, rfl, hb2, ho2⟩
     have HB2 := Lib.hid (HBL.out.trans (hb2.mono hszr))
     have HRW := Lib.hid ho2
     have HRS2 := Lib.hid (HRS.out.below hb2)
     have HED2 := Lib.hid (owns_below HED.out hb2)
     have HME2 := Lib.hid (HME.out.below hb2)
     have hsz2 : wC.heap.size ≤ w2.heap.size := hb2.size
     have HBC := Lib.hid hb2
     have HS2 := Lib.hid (SliceK.of_owns (enc := encI) encI_len rfl (by rw [flat_encI]; exact ho2))
     obtain ⟨a2, c2, rfl, -, -⟩ := owns_slice ho2
     clear hb2 ho2 HN HBL HME HSU q2 hcu
     by_cases hem : nx = []
     ·subst hem
      have HST : Hid (dmid t n cur S0 (j + 1) = M) := by
       unfold Hid
       rw [dmid_succ, HM.out]
       exact dstep_none HNX.out.symm
      go_wp2
      go_roundw
      case rel =>
       refine ⟨j + 1, q + 1, by have := HQJ.out; omega, by go_num, by omega, ?_, HB2.out, ?_⟩
       ·rw [HST.out]; exact HSM.out
       ·rw [HST.out]; exact HME2.out
      case measure => simp [intOf]; omega
     ·have hnz : nx.length ≠ 0 := fun h => hem (List.eq_nil_of_length_eq_zero h)
      have HNE : Hid (nextS t cur ((j : Int) + 1) ≠ []) := by unfold Hid; rw [← HNX.out]; exact hem
      obtain ⟨NL, hNL⟩ : ∃ NL, NL = nx.length := ⟨_, rfl⟩
      rw [← hNL] at hnz HRW HS2 ⊢
      have HNL := Lib.hid hNL
      have hnb : (((NL : Nat) : Int) == 0) = false := by rw [beq_eq_false_iff_ne]; omega
      have hnd := HGM.out.nodup
      have HND := Lib.hid hnd
      clear hem hNL hnd hnz
      go_wp2
      go_loopw [10, 11] (fun v10 v11 w3 => ∃ m : Nat, m ≤ R ∧ v11 = .int .i64 m ∧ v10 = .int .i64 (seenAt M.rows nx m) ∧ Below w2.heap.size w2 w3) (fun _ v11 _ => R - (intOf v11).toNat)
      case atStart => exact ⟨0, Nat.zero_le _, rfl, by rw [seenAt_zero], Below.refl _ _⟩
      case round =>
       obtain ⟨m, hm, rfl, rfl, hb3⟩ := hrel
       have HB3 := Lib.hid hb3
       have hs3 := hb3.size
       clear hb3
       by_cases hmt : m < R
       ·have hmr : m < M.rows.length := by rw [← HR.out]; exact hmt
        obtain ⟨b5, c5, u5, e5, hb5, hc5, -, hsu5⟩ := (HRS2.out.below HB3.out).rowAt hmr
        simp only [Value.slice.injEq, Option.some.injEq, Addr.mk.injEq, and_true] at e5
        obtain ⟨rfl, -, rfl⟩ := e5
        have HSA := Lib.hid (l00Same_any _ _ u5 _ M.rows[m] nx wr hsu5 (HS2.out.below HB3.out))
        clear hsu5
        cases hs : (M.rows[m] == nx)
        ·rw [hs] at HSA
         have HSE := Lib.hid (seenAt_miss hmr hs)
         clear hs
         go_wp2_with fail
         refine Calls.mono HSA.out ?_
         rintro e6 w6 ⟨rfl, hb6⟩
         have HB6 := Lib.hid (HB3.out.trans (hb6.mono hs3))
         clear hb6
         go_wp2
         go_roundw
         case rel => exact ⟨m + 1, by omega, by go_num, by rw [HSE.out], HB6.out⟩
         case measure => simp [intOf]; omega
        ·rw [hs] at HSA
         have HSE := Lib.hid (seenAt_hit HND.out hmr hs)
         clear hs
         go_wp2_with fail
         refine Calls.mono HSA.out ?_
         rintro e6 w6 ⟨rfl, hb6⟩
         have HB6 := Lib.hid (HB3.out.trans (hb6.mono hs3))
         clear hb6
         go_wp2
         go_roundw
         case rel => exact ⟨m + 1, by omega, by go_num, by rw [HSE.out], HB6.out⟩
         case measure => simp [intOf]; omega
       ·have hmR : R = m := by omega
        subst hmR
        have HBr := Lib.hid (HB2.out.trans (HB3.out.mono (by omega)))
        have HED3 := Lib.hid (owns_below HED2.out HB3.out)
        have HME3 := Lib.hid (HME2.out.below HB3.out)
        have HRS3 := Lib.hid (HRS2.out.below HB3.out)
        have HRW3 := Lib.hid (owns_below HRW.out HB3.out)
        have HBC3 := Lib.hid (HBC.out.trans (HB3.out.mono hsz2))
        clear HED2 HME2 HRS2 HRW HBC HB3 HB2 HS2 hmt
        by_cases hdp : dplace M.rows nx < M.rows.length
        ·obtain ⟨pn, hpn⟩ : ∃ pn, pn = dplace M.rows nx := ⟨_, rfl⟩
         have hse : seenAt M.rows nx R = (pn : Int) := by unfold seenAt; rw [HR.out, if_pos hdp, hpn]
         rw [hse]
         have HST : Hid (dmid t n cur S0 (j + 1) = ⟨M.rows, M.edges ++ [⟨(n : Int), (q : Int), (pn : Int)⟩]⟩) := by
          have := dstep_old (t := t) (i := n) (cur := cur) (st := M) (k := j) HNE.out (by rw [← HNX.out]; exact hdp)
          unfold Hid
          rw [dmid_succ, ← HM.out, this, ← HNX.out, ← hpn, HQ.out]
         clear hse hpn hdp
         by_cases h300 : E = 300
         ·have HFU : Hid (DFull t) := DFull.edge HCO.out (by rw [← HS0.out]; exact HCUR.out) (by rw [← HLL.out]; have := HQJ.out; omega) HNE.out (by rw [← HS0.out, ← HM.out, ← HE.out]; exact h300)
          clear HED3 HME3 HRS3 HRW3 HRS HED
          have HXX := Lib.hid (HX0.out.belowB HBr.out (by have := HSB.out; omega))
          have x0 := HXX.out.cell 0 rfl
          have x1 := HXX.out.cell 1 rfl
          have x2 := HXX.out.cell 2 rfl
          have x3 := HXX.out.cell 3 rfl
          have y0 := HXX.out.frozen 0
          have y1 := HXX.out.frozen 1
          have y2 := HXX.out.frozen 2
          have y3 := HXX.out.frozen 3
          have HBW := Lib.hid (HB0.out.trans (HBr.out.mono (by rw [HSB.out, HZ0.out]; omega)))
          go_wp2

          refine bodyPost_ret (sets_results rfl ((((HXX.out.set 0 _).set 1 _).set 2 _).set 3 _)) rfl ?_
          exact ⟨(((HBW.out.setCell (by rw [HZ0.out]; exact Nat.le_refl _) _).setCell (by rw [HZ0.out]; exact Nat.le_refl _) _).setCell (by rw [HZ0.out]; exact Nat.le_refl _) _).setCell (by rw [HZ0.out]; exact Nat.le_refl _) _, .inl ⟨HFU.out, rfl⟩⟩
         ·clear HRS3 HRW3 HRS HED
          obtain ⟨ie, hie, hze0, hze1, hze2⟩ := info_parts info_edge19
          go_wp2_with (at_builtin; refine wpList_append_own_at _ rfl _ _ 25 rfl B 68 ie (.agg #[.int .i64 0, .int .i64 0, .int .i64 0]) 3 24 Tryz.underlying25 hie hze0 hze1 hze2 rfl (by decide) _ _ _ rfl (HED3.out.alloc _) ⟨wr.heap.size, 0, none⟩ 1 1 [.int .i64 n, .int .i64 q, .int .i64 pn] rfl rfl ?c1 ?c2 ?c3 ?c4 ?c5 ?_)
          case c1 => have := three_new wr ⟨n, q, pn⟩ 68; simpa [encE] using this
          case c2 => first | (intro u hu; simp at hu; rcases hu with rfl | rfl | rfl <;> rfl) | exact ⟨rfl, rfl, rfl⟩ | simp [Value.oneCell']
          case c3 => first | omega | (simp [maxLen]; omega)
          case c4 => first | omega | (simp; omega)
          case c5 => first | omega | (simp; omega)
          intro v5 w5 ho5 hg5 _ _
          have hal5 : Below wr.heap.size wr (wr.alloc (.cells #[.int .i64 n, .int .i64 q, .int .i64 pn] 68)) := (Below.refl _ _).alloc (Nat.le_refl _) _
          have HNET := Lib.hid (DMem.push_edge (e := ⟨(n : Int), (q : Int), (pn : Nat)⟩) HME3.out hal5 hg5 (by simpa [encE, ← HE.out] using ho5))
          have HB5 : Hid (Below B w0 w5) := (HBr.out.alloc (by omega) _).grown hg5 (by simp; omega) (fun b e => (HED3.out.lt b e).1)
          clear ho5 hg5 hal5
          go_wp2
          go_roundw
          case rel =>
           refine ⟨j + 1, q + 1, by have := HQJ.out; omega, by go_num, by omega, ?_, HB5.out, ?_⟩
           ·rw [HST.out]; exact ⟨HSM.out.1, by have := HE.out; simp; omega⟩
           ·rw [HST.out]; exact HNET.out
          case measure => simp [intOf]; omega
        ·have hse : seenAt M.rows nx R = -1 := by unfold seenAt; rw [HR.out, if_neg hdp]
         rw [hse]
         have HST : Hid (dmid t n cur S0 (j + 1) = ⟨M.rows ++ [nx], M.edges ++ [⟨(n : Int), (q : Int), (R : Int)⟩]⟩) := by
          have := dstep_new (t := t) (i := n) (cur := cur) (st := M) (k := j) HNE.out (by rw [← HNX.out]; exact hdp)
          unfold Hid
          rw [dmid_succ, ← HM.out, this, ← HNX.out, ← HR.out, HQ.out]
         have HDP := Lib.hid hdp
         clear hse hdp
         by_cases h40 : R = 40
         ·have HFU : Hid (DFull t) := DFull.row HCO.out (by rw [← HS0.out]; exact HCUR.out) (by rw [← HLL.out]; have := HQJ.out; omega) HNE.out (by rw [← HS0.out, ← HM.out, ← HNX.out]; exact HDP.out) (by rw [← HS0.out, ← HM.out, ← HR.out]; exact h40)
          clear HED3 HME3 HRS3 HRW3 HRS HED
          have HXX := Lib.hid (HX0.out.belowB HBr.out (by have := HSB.out; omega))
          have x0 := HXX.out.cell 0 rfl
          have x1 := HXX.out.cell 1 rfl
          have x2 := HXX.out.cell 2 rfl
          have x3 := HXX.out.cell 3 rfl
          have y0 := HXX.out.frozen 0
          have y1 := HXX.out.frozen 1
          have y2 := HXX.out.frozen 2
          have y3 := HXX.out.frozen 3
          have HBW := Lib.hid (HB0.out.trans (HBr.out.mono (by rw [HSB.out, HZ0.out]; omega)))
          go_wp2

          refine bodyPost_ret (sets_results rfl ((((HXX.out.set 0 _).set 1 _).set 2 _).set 3 _)) rfl ?_
          exact ⟨(((HBW.out.setCell (by rw [HZ0.out]; exact Nat.le_refl _) _).setCell (by rw [HZ0.out]; exact Nat.le_refl _) _).setCell (by rw [HZ0.out]; exact Nat.le_refl _) _).setCell (by rw [HZ0.out]; exact Nat.le_refl _) _, .inl ⟨HFU.out, rfl⟩⟩
         ·obtain ⟨i0, hi, hz0, hz1, hz2⟩ := info_parts info_ints19
          have HRC : Hid (wr.ownsRow B 34 1 (.slice (some ⟨bv, 0, none⟩) R cv) R vs) := by
           have := HRS3.out.2.1
           rw [hvl] at this
           exact this
          go_wp2_with (at_builtin; refine wpList_append_own_at _ rfl _ _ 31 rfl B 34 i0 (.slice none 0 0) 1 24 Tryz.underlying31 hi hz0 hz1 hz2 rfl (by decide) _ _ _ rfl (HRC.out.alloc _) ⟨wr.heap.size, 0, none⟩ 1 1 [.slice a2 NL c2] rfl rfl ?c1 ?c2 ?c3 ?c4 ?c5 ?_)
          case c1 => exact (cell_one_new _ _ _)
          case c2 => first | rfl | (intro u hu; simp at hu; subst hu; rfl)
          case c3 => first | omega | (simp [maxLen]; omega)
          case c4 => first | omega | (simp; omega)
          case c5 => first | omega | (simp; omega)
          intro v3 w3 ho3 hg3 _ _
          have hal3 : Below wr.heap.size wr (wr.alloc (.cells #[.slice a2 NL c2] 34)) := (Below.refl _ _).alloc (Nat.le_refl _) _
          have HN3 := Lib.hid (DMem.push_row (xs := nx) HRS.out (by rw [← HE.out]; exact HED.out) (HBC3.out.trans (hal3.mono HBC3.out.size)) (by rw [← HNL.out]; exact owns_below HRW3.out hal3) (Nat.le_refl _) hszr hg3 (by rw [hvl]; exact ho3))
          have HB3 : Hid (Below B w0 w3) := (HBr.out.alloc (by omega) _).grown hg3 (by simp; omega) (fun b e => (HRC.out.lt b e).1)
          have hs3b : B ≤ w3.heap.size := by have h1 := HB3.out.size; have h2 := HBB.out; omega
          obtain ⟨a3, c3, rfl, -, -⟩ := owns_slice ho3
          clear ho3 hg3 hal3 HED3 HME3 HRS3 HRW3 HRS HED HRC
          by_cases h300 : E = 300
          ·have HFU : Hid (DFull t) := DFull.edge HCO.out (by rw [← HS0.out]; exact HCUR.out) (by rw [← HLL.out]; have := HQJ.out; omega) HNE.out (by rw [← HS0.out, ← HM.out, ← HE.out]; exact h300)
           have HXX := Lib.hid (HX0.out.belowB HB3.out (by have := HSB.out; omega))
           have x0 := HXX.out.cell 0 rfl
           have x1 := HXX.out.cell 1 rfl
           have x2 := HXX.out.cell 2 rfl
           have x3 := HXX.out.cell 3 rfl
           have y0 := HXX.out.frozen 0
           have y1 := HXX.out.frozen 1
           have y2 := HXX.out.frozen 2
           have y3 := HXX.out.frozen 3
           have HBW := Lib.hid (HB0.out.trans (HB3.out.mono (by rw [HSB.out, HZ0.out]; omega)))
           go_wp2

           refine bodyPost_ret (sets_results rfl ((((HXX.out.set 0 _).set 1 _).set 2 _).set 3 _)) rfl ?_
           exact ⟨(((HBW.out.setCell (by rw [HZ0.out]; exact Nat.le_refl _) _).setCell (by rw [HZ0.out]; exact Nat.le_refl _) _).setCell (by rw [HZ0.out]; exact Nat.le_refl _) _).setCell (by rw [HZ0.out]; exact Nat.le_refl _) _, .inl ⟨HFU.out, rfl⟩⟩
          ·have HED3 : Hid (w3.ownsRow B 68 3 (.slice ae E ce) E (M.edges.flatMap encE)) := by
            have := HN3.out.2
            rw [← HE.out] at this
            exact this
           obtain ⟨ie, hie, hze0, hze1, hze2⟩ := info_parts info_edge19
           go_wp2_with (at_builtin; refine wpList_append_own_at _ rfl _ _ 25 rfl B 68 ie (.agg #[.int .i64 0, .int .i64 0, .int .i64 0]) 3 24 Tryz.underlying25 hie hze0 hze1 hze2 rfl (by decide) _ _ _ rfl (HED3.out.alloc _) ⟨w3.heap.size, 0, none⟩ 1 1 [.int .i64 n, .int .i64 q, .int .i64 R] rfl rfl ?c1 ?c2 ?c3 ?c4 ?c5 ?_)
           case c1 => have := three_new w3 ⟨n, q, R⟩ 68; simpa [encE] using this
           case c2 => first | (intro u hu; simp at hu; rcases hu with rfl | rfl | rfl <;> rfl) | exact ⟨rfl, rfl, rfl⟩ | simp [Value.oneCell']
           case c3 => first | omega | (simp [maxLen]; omega)
           case c4 => first | omega | (simp; omega)
           case c5 => first | omega | (simp; omega)
           intro v5 w5 ho5 hg5 _ _
           have hal5 : Below w3.heap.size w3 (w3.alloc (.cells #[.int .i64 n, .int .i64 q, .int .i64 R] 68)) := (Below.refl _ _).alloc (Nat.le_refl _) _
           have HNET := Lib.hid (DMem.push_edge (e := ⟨(n : Int), (q : Int), (R : Nat)⟩) HN3.out hal5 hg5 (by simpa [encE, ← HE.out] using ho5))
           have HB5 : Hid (Below B w0 w5) := (HB3.out.alloc (by omega) _).grown hg5 (by simp; omega) (fun b e => (HED3.out.lt b e).1)
           clear ho5 hg5 hal5
           go_wp2
           go_roundw
           case rel =>
            refine ⟨j + 1, q + 1, by have := HQJ.out; omega, by go_num, by omega, ?_, HB5.out, ?_⟩
            ·rw [HST.out]; exact ⟨by have := HR.out; simp; omega, by have := HE.out; simp; omega⟩
            ·rw [HST.out]; exact HNET.out
           case measure => simp [intOf]; omega
    ·have hcs : (dAt t n).rows[n]? = some cur := by rw [← HS0.out]; exact HCUR.out
     have HDA : Hid (dAt t (n + 1) = dmid t n cur S0 j) := by
      have h1 := dAt_succ (t := t) hcs
      unfold Hid
      rw [h1, ← HS0.out, ← HLL.out, show L - 1 = j from by omega]
     have HCN := Lib.hid (HCO.out.succ (by rw [← HS0.out]; exact HL2.out))
     have HQJ := Lib.hid hq
     have HME := Lib.hid hmem
     have q2 := keeps HBL.out (by have := HSB.out; omega) (keeps HB0.out hpl HQ2.out)
     clear hsm hbl hmem hcs hq
     have hn40 : n < 40 := by have := HL2.out; omega
     go_wp2
     go_roundw
     case rel =>
      refine ⟨n + 1, by go_num, HCN.out, ?_, HBL.out, ?_⟩
      ·rw [HDA.out]; exact HSM.out
      ·rw [HDA.out]; exact HME.out
     case measure => have := HL2.out; simp [intOf]; omega
  ·have HOK : Hid (DOk t S0) := by
    unfold Hid
    rw [HS0.out]
    exact DOk.done HCO.out (by rw [← HS0.out]; exact HSM.out) (by rw [← HS0.out]; exact hlt)
   have q2 := keeps HBL.out (by have := HSB.out; omega) (keeps HB0.out hpl HQ2.out)
   obtain ⟨wM, rfl⟩ : ∃ wM : World, wM = wr := ⟨_, rfl⟩
   have hpw : p < wM.heap.size := by have := HSB.out; omega
   have HXX := Lib.hid (HX0.out.belowB HBL.out (by have := HSB.out; omega))
   have hbw : b0 < wM.heap.size := HXX.out.lt
   obtain ⟨is, his, hsz0, hsz1, hsz2⟩ := info_parts info_str19
   obtain ⟨R, hR⟩ : ∃ R, R = S0.rows.length := ⟨_, rfl⟩
   obtain ⟨E, hE⟩ : ∃ E, E = S0.edges.length := ⟨_, rfl⟩
   rw [← hR, ← hE] at HME
   rw [← hR] at hlt hsr
   rw [← hR, ← hE]
   have HR := Lib.hid hR
   have HE := Lib.hid hE
   obtain ⟨bl, ol, rfl, hblw, hcells⟩ : ∃ bl ol, al = some ⟨bl, ol, none⟩ ∧ bl < w.heap.size ∧ ∀ i (h : i < t.labels.length) j, j < 1 → w.cell? ⟨bl, ol + i * 1 + j, none⟩ = (encS t.labels[i])[j]? := by
    rcases HLR.out with h | ⟨bl, ol, h1, -, h3, h4⟩
    ·have := HLL.out; omega
    ·exact ⟨bl, ol, h1, h3, h4⟩
   have HCE : Hid (∀ o, ∀ j u, (t.labels.map Value.string)[j]? = some u → (wM.alloc o).cell? ((⟨bl, ol, none⟩ : Addr).add j) = some u) := by
    intro o j u hu
    have h1 := row_news hcells j u hu
    have hb : Below w.heap.size w (wM.alloc o) := (HB0.out.trans (HBL.out.mono (by rw [HSB.out, HZ0.out]; omega))).alloc (by have := HZ0.out; omega) _
    exact (hb.cell (p := (⟨bl, ol, none⟩ : Addr).add j) (by rw [add_block]; exact hblw)).trans h1
   have HON : Hid ((wM.alloc (.cells #[] 9)).ownsRow B 9 1 (.slice (some ⟨wM.heap.size, 0, none⟩) 0 0) 0 []) := World.ownsRow_lit (size := 1) wM #[] 0 hsz (by decide) rfl
   clear HCO HS0 HG hcells hR hE HRS HED hvl
   go_wp2_with (at_builtin; refine wpList_append_own_at _ rfl _ _ 24 rfl B 9 is (.string ⟨#[]⟩) 1 16 Tryz.underlying24 his hsz0 hsz1 hsz2 rfl (by decide) _ _ _ rfl HON.out ⟨bl, ol, none⟩ L cl (t.labels.map .string) rfl ?c0 (HCE.out _) ?c2 ?c3 ?c4 ?c5 ?_)
   case c0 => rw [List.length_map, ← HLL.out, Nat.mul_one]
   case c2 => intro u hu; obtain ⟨x, -, rfl⟩ := List.mem_map.1 hu; rfl
   case c3 => first | omega | (simp [maxLen]; omega)
   case c4 => first | omega | (simp; omega)
   case c5 => first | omega | (simp; omega)
   intro v5 w5 ho5 hg5 _ _
   have hal5 : Below wM.heap.size wM (wM.alloc (.cells #[] 9)) := (Below.refl _ _).alloc (Nat.le_refl _) _
   have hb5 : Below wM.heap.size wM w5 := hal5.grown hg5 (by simp) (fun b e => by cases e; exact Nat.le_refl _)
   have HX5 := Lib.hid (HXX.out.below hb5)
   have HO5 : Hid (w5.ownsRow B 9 1 v5 L (t.labels.map .string)) := by unfold Hid; simpa using ho5
   have HME5 := Lib.hid (HME.out.below hb5)
   have HB5 := Lib.hid (HBL.out.trans (hb5.mono hsz))
   obtain ⟨a5, c5, rfl, -, -⟩ := owns_slice HO5.out
   clear ho5 hg5 hal5 hb5
   have x0 := HX5.out.cell 0 rfl
   have x1 := HX5.out.cell 1 rfl
   have x2 := HX5.out.cell 2 rfl
   have x3 := HX5.out.cell 3 rfl
   have y0 := HX5.out.frozen 0
   have y1 := HX5.out.frozen 1
   have y2 := HX5.out.frozen 2
   have y3 := HX5.out.frozen 3
   go_wp2
   refine bodyPost_ret (sets_results rfl ((((HX5.out.set 0 _).set 1 _).set 2 _).set 3 _)) rfl ?_
   have hlo : w.heap.size ≤ B := by rw [HSB.out, HZ0.out]; omega
   have hbB : b0 < B := by rw [HSB.out]; omega
   have hT : Turns 0 B w5 ((((w5.setCell ⟨b0, 0, none⟩ (.int .i64 R)).setCell ⟨b0, 1, none⟩ (.int .i64 0)).setCell ⟨b0, 2, none⟩ (.slice a5 L c5)).setCell ⟨b0, 3, none⟩ (.slice ae E ce)) :=
    turns_trans (turns_trans (turns_trans (turns_set _ _ _ (Nat.zero_le _) hbB) (turns_set _ _ _ (Nat.zero_le _) hbB)) (turns_set _ _ _ (Nat.zero_le _) hbB)) (turns_set _ _ _ (Nat.zero_le _) hbB)
   have HBW := Lib.hid (HB0.out.trans (HB5.out.mono hlo))
   refine ⟨(((HBW.out.setCell (by rw [HZ0.out]; exact Nat.le_refl _) _).setCell (by rw [HZ0.out]; exact Nat.le_refl _) _).setCell (by rw [HZ0.out]; exact Nat.le_refl _) _).setCell (by rw [HZ0.out]; exact Nat.le_refl _) _, .inr ⟨S0, .slice a5 L c5, _, _, HOK.out, by rw [← HR.out]; rfl, (HME5.out.turns hT (Nat.le_refl _)).lower hlo, ?_⟩⟩
   rw [← HLL.out]
   exact own_lower (owns_turns HO5.out hT (fun b e => .inr (HO5.out.lt b e).1)) hlo

end Go.Proofs.YthofaoabgbgbdaaGreatDoor

namespace Go.Proofs.YthofaoabgbgbdaaGreatDoor
open Go Go.RowKit

/-- lts over the labels of the system gives the net's edges back. -/
theorem lts_back {lo2 : Nat} {t : Lts} {st : DNet} {lv av : Value} {w : World} (hv : Valid t) (hG : DGood t st) (hu : Up st.edges) (hs : DSmall st) (hl : SrcS w lv t.labels) (ha : SliceK 3 encC lo2 w av (arcsOf t st)) :
  Calls Tryz.prog 49 #[.int .i64 st.rows.length, .int .i64 0, lv, av] w (RetLts st.rows.length 0 t.labels st.edges w) := by
 have h := lts_any lo2 st.rows.length 0 t.labels (arcsOf t st) lv av w hl ha (by have := hv.labels.most; omega) (by unfold arcsOf; rw [List.length_map]; have := hs.2; omega) t.labels (all_used hv.labels)
  (fun a ha => used_mem hG _ (List.mem_map.2 ⟨a, ha, rfl⟩)) (by rw [edge_back hv hG]; exact rise_up hu)
 rw [edge_back hv hG] at h
 exact h

end Go.Proofs.YthofaoabgbgbdaaGreatDoor
