/-
  The program's strongly: an edge is answered by an edge of the same label whose end is in the relation.
  What the implementation's out computes: the edges from a state.
  The program's answered and simulated (plain simulations).
  The program's simulation: the greatest set of pairs by rounds over a map.
-/
import Derived.Test.YtdkbbknhighebaaGreatDoorL10
import Derived.Test.YtdkbbknhighebaaGreatDoorL2
import Derived.Test.YtdkbbknhighebaaGreatDoorL4
import Derived.Sort.LoopGhostIn
import Derived.Laws.EntriesVeiled
namespace Go.Proofs.YtdkbbknhighebaaGreatDoor
open Go Go.RowKit


/-- A function of two states that answers N, and turns nothing that was there. -/
def HasFn (fid : Nat) (caps : Array Value) (N : PairSet) (w : World) : Prop :=
 ∀ w', Below w.heap.size w w' → ∀ x y, Small2 (x, y) → Calls Tryz.prog fid (#[.int .i64 x, .int .i64 y] ++ caps) w' fun e w'' => e = .returned (.bool (N x y)) ∧ Below w'.heap.size w' w''
theorem HasFn.below {fid : Nat} {caps : Array Value} {N : PairSet} {w w' : World} (h : HasFn fid caps N w) (hb : Below w.heap.size w w') : HasFn fid caps N w' := fun w'' hb2 x y hs => h w'' (hb.trans (hb2.mono hb.size)) x y hs

set_option maxRecDepth 100000 in
theorem strongly1_any (rb vb fid : Nat) (caps : Array Value) (N : PairSet) (q0 q1 q2 q3 q4 q5 q6 q7 : Value) (v x : Int) (w : World) (hr : Blk w rb [q0, q1, q2, q3, q4, q5, q6, q7, .func (.func fid) #[] caps] 101) (hv : Blk w vb [.int .i64 v] 2)
  (eg : ∀ args w, (callFunc fid args).run Tryz.prog w = .ok (.enter fid args) w) (hH : HasFn fid caps N w) (hs : Small2 (v, x)) :
  Calls Tryz.prog 120 #[.int .i64 x, .pointer (some ⟨rb, 0, none⟩), .pointer (some ⟨vb, 0, none⟩)] w fun e w' => e = .returned (.bool (N v x)) ∧ Below w.heap.size w w' := by
 have HC := Lib.hid (hH w (Below.refl _ _) v x hs)
 have r8 := hr.cell 8 rfl
 have v0 := hv.cell 0 rfl
 obtain ⟨b, hb⟩ : ∃ b, b = N v x := ⟨_, rfl⟩
 rw [← hb] at HC ⊢
 clear hr hv hH hs hb
 go_enter Tryz.func120, Tryz.ntmps120
 go_wp2_with fail
 refine Calls.mono HC.out ?_
 rintro e w' ⟨rfl, hb1⟩
 have HB := Lib.hid hb1
 clear hb1 HC
 go_wp2_with fail
 go_ret
 exact ⟨rfl, HB.out⟩

theorem follow_small {b : Lts} (hv : Valid b) {cur : List Int} {l : ByteArray} {x v : Int} (h0 : 0 ≤ v) (h1 : v < 40) (hx : x ∈ followL b cur l) : Small2 (v, x) := by
 have hm := ((sort_compact_is (followR b cur l)).mem x).1 hx
 obtain ⟨e, he, -, -, rfl⟩ := mem_followR.1 hm
 obtain ⟨i, hi, rfl⟩ := List.mem_iff_getElem.1 he
 have hok := hv.edge i hi
 have h2 := hok.d0
 have h3 := hok.d1
 have h4 := hv.st1
 exact ⟨⟨h0, h1⟩, h2, by show b.edges[i].dst < 40; omega⟩

set_option maxRecDepth 100000 in
set_option maxHeartbeats 1000000 in
theorem strongly_any (lo fid : Nat) (caps : Array Value) (N : PairSet) (a b : Lts) (la ea lb eb : Value) (x y v : Int) (l : ByteArray) (w : World) (hvb : Valid b) (hlb : SliceK 1 encS lo w lb b.labels) (heb : SliceK 3 encE lo w eb b.edges)
  (eg : ∀ args w, (callFunc fid args).run Tryz.prog w = .ok (.enter fid args) w) (hH : HasFn fid caps N w) (h0 : 0 ≤ v) (h1 : v < 40) :
  Calls Tryz.prog 99 #[.agg #[.int .i64 a.states, .int .i64 a.initial, la, ea, .int .i64 b.states, .int .i64 b.initial, lb, eb, .func (.func fid) #[] caps], .int .i64 x, .int .i64 y, .string l, .int .i64 v] w fun e w' => e = .returned (.bool (strongB b N y l v)) ∧ Below w.heap.size w w' := by
 obtain ⟨rb, hrb⟩ : ∃ rb, rb = w.heap.size := ⟨_, rfl⟩
 obtain ⟨W, hW⟩ : ∃ W, W = ((w.alloc (.cells #[.int .i64 a.states, .int .i64 a.initial, la, ea, .int .i64 b.states, .int .i64 b.initial, lb, eb, .func (.func fid) #[] caps] 101)).alloc (.cells #[.int .i64 v] 2)).alloc (.cells #[.int .i64 y] 2) := ⟨_, rfl⟩
 have hb : Below w.heap.size w W := by rw [hW]; exact (((Below.refl _ _).alloc (Nat.le_refl _) _).alloc (by simp) _).alloc (by simp; omega) _
 have hR : Blk W rb [.int .i64 a.states, .int .i64 a.initial, la, ea, .int .i64 b.states, .int .i64 b.initial, lb, eb, .func (.func fid) #[] caps] 101 := by rw [hW, hrb]; exact ((Blk.new w _ _).alloc _).alloc _
 have hV : Blk W (rb + 1) [.int .i64 v] 2 := by
  have h := (Blk.new (w.alloc (.cells #[.int .i64 a.states, .int .i64 a.initial, la, ea, .int .i64 b.states, .int .i64 b.initial, lb, eb, .func (.func fid) #[] caps] 101)) [.int .i64 v] 2).alloc (.cells #[.int .i64 y] 2)
  rw [World.size_alloc, ← hrb] at h
  rw [hW]
  exact h
 have hY : Blk W (rb + 2) [.int .i64 y] 2 := by
  have h := Blk.new ((w.alloc (.cells #[.int .i64 a.states, .int .i64 a.initial, la, ea, .int .i64 b.states, .int .i64 b.initial, lb, eb, .func (.func fid) #[] caps] 101)).alloc (.cells #[.int .i64 v] 2)) [.int .i64 y] 2
  rw [World.size_alloc, World.size_alloc, ← hrb] at h
  rw [hW]
  exact h
 have hS : SliceK 1 encI 0 W (.slice (some ⟨rb + 2, 0, none⟩) 1 1) [y] := ⟨_, _, rfl, by simp, by simp, .inr ⟨rb + 2, 0, rfl, Nat.zero_le _, hY.lt, fun i hi j hj => by
  have hi0 : i = 0 := by simpa using hi
  have hj0 : j = 0 := by omega
  subst hi0; subst hj0
  exact hY.cell 0 rfl⟩⟩
 have HF := Lib.hid (follow_any lo 0 b lb eb _ [y] l W hvb (hlb.below hb) (heb.below hb) hS)
 have HSM : Hid (∀ z ∈ followL b [y] l, Small2 (v, z)) := fun z hz => follow_small hvb h0 h1 hz
 have HB := Lib.hid hb
 have HR := Lib.hid hR
 have HV := Lib.hid hV
 have HH := Lib.hid (hH.below hb)
 have HW := Lib.hid hW
 have HRB := Lib.hid hrb
 have hsW : w.heap.size ≤ W.heap.size := hb.size
 have HST : Hid (strongB b N y l v = (followL b [y] l).any fun z => N v z) := rfl
 have r4 := hR.cell 4 rfl
 have r5 := hR.cell 5 rfl
 have r6 := hR.cell 6 rfl
 have r7 := hR.cell 7 rfl
 rw [hW, hrb] at r4 r5 r6 r7
 clear hvb hlb heb hH h0 h1 hb hR hV hY hS hW hrb
 go_enter Tryz.func99, Tryz.ntmps99
 go_wp2_with fail
 rw [← HW.out]
 try rw [← HRB.out]
 refine Calls.mono HF.out ?_
 rintro e w1 ⟨fv, rfl, hb1, ho1⟩
 have hs1 : SliceK 1 encI W.heap.size w1 fv (followL b [y] l) := SliceK.of_owns (e := 2) encI_len rfl (by rw [flat_encI]; exact ho1)
 have HCF := Lib.hid (ContainsFuncI W.heap.size fv (followL b [y] l) 120 #[.pointer (some ⟨rb, 0, none⟩), .pointer (some ⟨rb + 1, 0, none⟩)] (fun z => N v z) w1 hs1 (fun args w => by kernel_rfl)
  fun w' hb' z hz => strongly1_any rb (rb + 1) fid caps N _ _ _ _ _ _ _ _ v z w' (HR.out.below (hb1.trans (hb'.mono hb1.size))) (HV.out.below (hb1.trans (hb'.mono hb1.size))) eg (HH.out.below (hb1.trans (hb'.mono hb1.size))) (HSM.out z hz))
 have HB1 := Lib.hid (HB.out.trans (hb1.mono hsW))
 obtain ⟨c, hc⟩ : ∃ c, c = (followL b [y] l).any fun z => N v z := ⟨_, rfl⟩
 rw [← hc] at HCF HST
 have hs1w := HB1.out.size
 clear hb1 ho1 hs1 r4 r5 r6 r7 HF hc
 go_wp2_with fail
 refine Calls.mono HCF.out ?_
 rintro e w2 ⟨rfl, hb2⟩
 have HB2 := Lib.hid (HB1.out.trans (hb2.mono hs1w))
 clear hb2 HCF
 go_wp2
 go_ret
 exact ⟨ret_bool HST.out.symm, HB2.out⟩

end Go.Proofs.YtdkbbknhighebaaGreatDoor

namespace Go.Proofs.YtdkbbknhighebaaGreatDoor
open Go Go.RowKit


set_option maxRecDepth 100000 in
set_option maxHeartbeats 2000000 in
theorem out_any (lo : Nat) (t : Lts) (lv ev : Value) (s : Int) (w : World) (hsmall : t.edges.length ≤ 1073741824) (he : SliceK 3 encE lo w ev t.edges) :
  Calls Tryz.prog 93 #[.agg #[.int .i64 t.states, .int .i64 t.initial, lv, ev], .int .i64 s] w (MadeOut t s w) := by
 obtain ⟨ae, ce, rfl, hen, hec, hrow⟩ := he
 obtain ⟨i0, hi, hz0, hz1, hz2⟩ := info_parts info_edge2
 have HB0 : Hid (Below w.heap.size w (w.alloc (.cells #[.int .i64 t.states, .int .i64 t.initial, lv, .slice ae t.edges.length ce] 27))) := (Below.refl _ _).alloc (Nat.le_refl _) _
 go_enter Tryz.func93, Tryz.ntmps93
 go_wp2_with fail
 go_loopw [5, 11] (fun v i wr => ∃ k : Nat, k ≤ t.edges.length ∧ i = .int .i64 k ∧ Below w.heap.size w wr ∧ wr.ownsRow w.heap.size 47 3 v ((t.edges.take k).filter fun e => e.src == s).length (((t.edges.take k).filter fun e => e.src == s).flatMap encE)) (fun _ i _ => t.edges.length - (intOf i).toNat)
 case atStart => exact ⟨0, Nat.zero_le _, rfl, HB0.out, World.ownsRow_nil _ _ _ _⟩
 case round =>
  obtain ⟨k, hk, rfl, hbl, ho⟩ := hrel
  have HBL := Lib.hid hbl
  have HO := Lib.hid ho
  have hsz := hbl.size
  have hfl : ((t.edges.take k).filter fun e => e.src == s).length ≤ k := Nat.le_trans (List.length_filter_le _ _) (List.length_take_le _ _)
  clear hbl ho
  by_cases hlt : k < t.edges.length
  ·obtain ⟨be, oe, rfl, -, hbe, e1, e2, e3⟩ := (hrow.below HBL.out).edge hlt
   clear hrow
   have HBA : Hid (Below w.heap.size w (wr.alloc (.cells #[.int .i64 t.edges[k].src, .int .i64 t.edges[k].lab, .int .i64 t.edges[k].dst] 47))) := HBL.out.alloc hsz _
   have HOA : Hid ((wr.alloc (.cells #[.int .i64 t.edges[k].src, .int .i64 t.edges[k].lab, .int .i64 t.edges[k].dst] 47)).ownsRow w.heap.size 47 3 u5 ((t.edges.take k).filter fun e => e.src == s).length (((t.edges.take k).filter fun e => e.src == s).flatMap encE)) := HO.out.alloc _
   cases g : (t.edges[k].src == s)
   ·have HL : Hid ((t.edges.take (k + 1)).filter (fun e => e.src == s) = (t.edges.take k).filter fun e => e.src == s) := by
     unfold Hid
     rw [List.take_succ_eq_append_getElem hlt, List.filter_append]
     simp [g]
    go_wp2_with fail
    go_roundw
    case rel => exact ⟨k + 1, by omega, by go_num, HBA.out, by rw [HL.out]; exact HOA.out⟩
    case measure => simp [intOf]; omega
   ·have HL : Hid ((t.edges.take (k + 1)).filter (fun e => e.src == s) = ((t.edges.take k).filter fun e => e.src == s) ++ [t.edges[k]]) := by
     unfold Hid
     rw [List.take_succ_eq_append_getElem hlt, List.filter_append]
     simp [g]
    generalize hfs : (t.edges.take k).filter (fun e => e.src == s) = fs at *
    have HFS := Lib.hid hfs
    clear hfs
    go_wp2_with (at_builtin; refine wpList_append_own _ rfl _ _ 25 rfl w.heap.size 47 i0 (.agg #[.int .i64 0, .int .i64 0, .int .i64 0]) 3 24 Tryz.underlying25 hi hz0 hz1 hz2 rfl (by decide) _ _ _ rfl (HOA.out.alloc _) ⟨wr.heap.size + 1, 0, none⟩ 1 1 (encE t.edges[k]) rfl rfl ?c1 ?c2 ?c3 ?c4 ?c5 ?_)
    case c1 => have := three_new (wr.alloc (.cells #[.int .i64 t.edges[k].src, .int .i64 t.edges[k].lab, .int .i64 t.edges[k].dst] 47)) t.edges[k] 47; simpa using this
    case c2 => intro u hu; simp [encE] at hu; rcases hu with rfl | rfl | rfl <;> rfl
    case c3 => simp [maxLen]; omega
    case c4 => omega
    case c5 => simp; omega
    intro v' w1 ho1 hg1 _
    have HO2 : Hid (w1.ownsRow w.heap.size 47 3 v' (fs ++ [t.edges[k]]).length ((fs ++ [t.edges[k]]).flatMap encE)) := by
     unfold Hid
     rw [List.length_append, List.flatMap_append, List.flatMap_singleton]
     exact ho1
    have HB2 : Hid (Below w.heap.size w w1) := (HBA.out.alloc (by simp; omega) _).grown hg1 (by simp; omega) (fun b e => (HO.out.lt b e).1)
    clear ho1 hg1
    go_wp2_with fail
    go_roundw
    case rel => exact ⟨k + 1, by omega, by go_num, HB2.out, by rw [HL.out]; exact HO2.out⟩
    case measure => simp [intOf]; omega
  ·clear hrow
   go_wp2_with fail
   go_ret
   obtain rfl : k = t.edges.length := by omega
   exact ⟨_, rfl, HBL.out, by unfold outOf; have := HO.out; rw [List.take_length] at this; exact this⟩

end Go.Proofs.YtdkbbknhighebaaGreatDoor

namespace Go.Proofs.YtdkbbknhighebaaGreatDoor
open Go Go.RowKit


set_option maxRecDepth 100000 in
set_option maxHeartbeats 4000000 in
theorem answered_any (lo fid fid2 : Nat) (caps : Array Value) (a b : Lts) (la ea lb eb : Value) (G : Edge → Bool) (x y : Int) (w : World) (hva : Valid a) (hla : SliceK 1 encS lo w la a.labels) (hea : SliceK 3 encE lo w ea a.edges)
  (eg2 : ∀ args w, (callFunc fid2 args).run Tryz.prog w = .ok (.enter fid2 args) w)
  (hG : ∀ w', Below w.heap.size w w' → ∀ e ∈ outOf a x, Calls Tryz.prog fid2 #[.agg #[.int .i64 a.states, .int .i64 a.initial, la, ea, .int .i64 b.states, .int .i64 b.initial, lb, eb, .func (.func fid) #[] caps], .int .i64 x, .int .i64 y, .string (labAt a e), .int .i64 e.dst] w' fun r w'' => r = .returned (.bool (G e)) ∧ Below w'.heap.size w' w'') :
  Calls Tryz.prog 97 #[.agg #[.int .i64 a.states, .int .i64 a.initial, la, ea, .int .i64 b.states, .int .i64 b.initial, lb, eb, .func (.func fid) #[] caps], .int .i64 x, .int .i64 y, .func (.func fid2) #[] #[]] w fun e w' => e = .returned (.bool ((outOf a x).all G)) ∧ Below w.heap.size w w' := by
 obtain ⟨al, cl, rfl, hln, hlc, hlrow⟩ := hla
 obtain ⟨LN, hLN⟩ : ∃ LN, LN = a.labels.length := ⟨_, rfl⟩
 rw [← hLN] at hG hln
 rw [← hLN]
 have HLN := Lib.hid hLN
 obtain ⟨rb, hrb⟩ : ∃ rb, rb = w.heap.size := ⟨_, rfl⟩
 obtain ⟨W, hW⟩ : ∃ W, W = w.alloc (.cells #[.int .i64 a.states, .int .i64 a.initial, .slice al LN cl, ea, .int .i64 b.states, .int .i64 b.initial, lb, eb, .func (.func fid) #[] caps] 101) := ⟨_, rfl⟩
 have hb : Below w.heap.size w W := by rw [hW]; exact (Below.refl _ _).alloc (Nat.le_refl _) _
 have hR : Blk W rb [.int .i64 a.states, .int .i64 a.initial, .slice al LN cl, ea, .int .i64 b.states, .int .i64 b.initial, lb, eb, .func (.func fid) #[] caps] 101 := by rw [hW, hrb]; exact Blk.new w _ _
 have HOU := Lib.hid (out_any lo a (.slice al LN cl) ea x W (by have := hva.most; omega) (hea.below hb))
 have HV := Lib.hid hva
 have HB := Lib.hid hb
 have HR := Lib.hid hR
 have HG := Lib.hid hG
 have HLR := Lib.hid (hlrow.below hb)
 have HW := Lib.hid hW
 have HRB := Lib.hid hrb
 have hsW : w.heap.size ≤ W.heap.size := hb.size
 have r0 := hR.cell 0 rfl
 have r1 := hR.cell 1 rfl
 have r2 := hR.cell 2 rfl
 have r3 := hR.cell 3 rfl
 rw [hW, hrb] at r0 r1 r2 r3
 clear hva hea hG hb hR hW hrb hlrow hLN
 go_enter Tryz.func97, Tryz.ntmps97
 go_wp2_with fail
 rw [← HW.out]
 try rw [← HRB.out]
 refine Calls.mono HOU.out ?_
 rintro e w1 ⟨ov, rfl, hb1, ho1⟩
 have HB1 := Lib.hid hb1
 obtain ⟨O, hO⟩ : ∃ O, O = outOf a x := ⟨_, rfl⟩
 rw [← hO] at ho1
 have HOO := Lib.hid hO
 have HO1 := Lib.hid ho1
 obtain ⟨oa, oc, rfl, -, -⟩ := owns_slice ho1
 have hs1 : W.heap.size ≤ w1.heap.size := hb1.size
 obtain ⟨OL, hOL⟩ : ∃ OL, OL = O.length := ⟨_, rfl⟩
 rw [← hOL] at HO1
 rw [← hOL]
 have HOL := Lib.hid hOL
 have hol : OL ≤ 1048576 := by
  have h1 : O.length ≤ a.edges.length := by rw [hO]; exact List.length_filter_le _ _
  have := HV.out.most
  omega
 have HBW : Hid (Below w.heap.size w w1) := HB.out.trans (hb1.mono hsW)
 clear hb1 ho1 hO hOL r0 r1 r2 r3 HOU
 go_wp2
 go_loopw [16] (fun v16 wr => ∃ k : Nat, k ≤ OL ∧ v16 = .int .i64 k ∧ Below w1.heap.size w1 wr ∧ ∀ e ∈ O.take k, G e = true) (fun v16 _ => OL - (intOf v16).toNat)
 case atStart => exact ⟨0, Nat.zero_le _, rfl, Below.refl _ _, fun e he => by simp at he⟩
 case round =>
  obtain ⟨k, hk, rfl, hbl, hall⟩ := hrel
  obtain ⟨wC, rfl⟩ : ∃ wC : World, wC = wr := ⟨_, rfl⟩
  have HBL := Lib.hid hbl
  have HALL := Lib.hid hall
  have hszC := hbl.size
  clear hbl hall
  by_cases hlt : k < OL
  ·have hkO : k < O.length := by rw [← HOL.out]; exact hlt
   have hoC := owns_below HO1.out HBL.out
   obtain ⟨ob, e1, hobl⟩ : ∃ ob, oa = some ⟨ob, 0, none⟩ ∧ ob < wC.heap.size := by
    rcases hoC.2 with ⟨h, h0⟩ | ⟨g, c, u, h, -⟩
    ·omega
    ·simp only [Value.slice.injEq, true_and] at h
     obtain ⟨rfl, rfl⟩ := h
     exact ⟨g, rfl, (hoC.lt g rfl).2⟩
   subst e1
   have hrow : RowK 3 encE W.heap.size wC (some ⟨ob, 0, none⟩) O := by
    obtain ⟨a', c', he, -, -, hr⟩ := SliceK.of_owns (enc := encE) encE_len HOL.out hoC
    simp only [Value.slice.injEq] at he
    rw [he.1]
    exact hr
   obtain ⟨ob', of', hq, -, -, e1, e2, e3⟩ := hrow.edge hkO
   simp only [Option.some.injEq, Addr.mk.injEq, and_true] at hq
   obtain ⟨rfl, rfl⟩ := hq
   rw [Nat.zero_add] at e1 e2 e3
   obtain ⟨q, hq⟩ : ∃ q, q = O[k] := ⟨_, rfl⟩
   rw [← hq] at e1 e2 e3
   have hqo : q ∈ outOf a x := by rw [← HOO.out, hq]; exact List.getElem_mem hkO
   have hqm : q ∈ a.edges := (List.mem_filter.1 hqo).1
   obtain ⟨qi, hqi, hqe⟩ := List.mem_iff_getElem.1 hqm
   have hok := HV.out.edge qi hqi
   rw [hqe] at hok
   obtain ⟨el, hel⟩ : ∃ el : Nat, (el : Int) = q.lab := ⟨q.lab.toNat, by have := hok.l0; omega⟩
   have helL : el < a.labels.length := by have := hok.l1; omega
   have helN : el < LN := by rw [HLN.out]; exact helL
   obtain ⟨bl, ol, rfl, -, hbl0, hlc1⟩ := HLR.out.one helL
   obtain ⟨l, hl⟩ : ∃ l, l = a.labels[el] := ⟨_, rfl⟩
   simp only [encS, List.getElem?_cons_zero] at hlc1
   rw [← hl] at hlc1
   have hlab : labAt a q = l := by
    unfold labAt
    rw [show q.lab.toNat = el from by omega, List.getD_eq_getElem?_getD, List.getElem?_eq_getElem helL, hl]
    rfl
   obtain ⟨es, hes⟩ : ∃ es, es = q.src := ⟨_, rfl⟩
   obtain ⟨ed, hed⟩ : ∃ ed, ed = q.dst := ⟨_, rfl⟩
   rw [← hes] at e1
   rw [← hel] at e2
   rw [← hed] at e3
   obtain ⟨W2, hW2⟩ : ∃ W2, W2 = wC.alloc (.cells #[.int .i64 es, .int .i64 el, .int .i64 ed] 47) := ⟨_, rfl⟩
   obtain ⟨eb2, heb2⟩ : ∃ eb2, eb2 = wC.heap.size := ⟨_, rfl⟩
   have hb2 : Below wC.heap.size wC W2 := by rw [hW2]; exact (Below.refl _ _).alloc (Nat.le_refl _) _
   have hE : Blk W2 eb2 [.int .i64 es, .int .i64 el, .int .i64 ed] 47 := by rw [hW2, heb2]; exact Blk.new wC _ _
   have h02 : Below W.heap.size W W2 := (HB1.out.trans ((HBL.out.trans (hb2.mono hszC)).mono hs1))
   have hR2 := HR.out.below h02
   have hgc : ∀ w', Below w.heap.size w w' → Calls Tryz.prog fid2 #[.agg #[.int .i64 a.states, .int .i64 a.initial, .slice (some ⟨bl, ol, none⟩) LN cl, ea, .int .i64 b.states, .int .i64 b.initial, lb, eb, .func (.func fid) #[] caps], .int .i64 x, .int .i64 y, .string l, .int .i64 ed] w' fun r w'' => r = .returned (.bool (G q)) ∧ Below w'.heap.size w' w'' := by
    intro w' hbw'
    have := HG.out w' hbw' q hqo
    rw [hlab, ← hed] at this
    exact this
   have HGC := Lib.hid hgc
   have H2 := Lib.hid (HBL.out.trans (hb2.mono hszC))
   have hs2 : w1.heap.size ≤ W2.heap.size := H2.out.size
   have HQ := Lib.hid hq
   have HW2 := Lib.hid hW2
   have HEB2 := Lib.hid heb2
   have heli : (el : Int) < (LN : Int) := by omega
   have hki : (k : Int) < (OL : Int) := by omega
   obtain ⟨g, hg⟩ : ∃ g, g = G q := ⟨_, rfl⟩
   rw [← hg] at HGC
   have HGG := Lib.hid hg
   have l0 := later_cell hR2.lt (hR2.cell 0 rfl)
   have l1 := later_cell hR2.lt (hR2.cell 1 rfl)
   have l2 := later_cell hR2.lt (hR2.cell 2 rfl)
   have l3 := later_cell hR2.lt (hR2.cell 3 rfl)
   have l4 := later_cell hR2.lt (hR2.cell 4 rfl)
   have l5 := later_cell hR2.lt (hR2.cell 5 rfl)
   have l6 := later_cell hR2.lt (hR2.cell 6 rfl)
   have l7 := later_cell hR2.lt (hR2.cell 7 rfl)
   have l8 := later_cell hR2.lt (hR2.cell 8 rfl)
   have k1 := later_cell hE.lt (hE.cell 1 rfl)
   have k2 := later_cell hE.lt (hE.cell 2 rfl)
   have k3 := later_cell (Nat.lt_of_lt_of_le hbl0 h02.size) (keeps h02 hbl0 hlc1)
   clear hrow hq hqo hqm hqe hqi hok hel helL hl hlab hes hed hW2 heb2 hb2 hE h02 hR2 hgc hg hlc1 hoC
   go_wp2
   rw [← HW2.out]
   try rw [← HEB2.out]
   refine wp_region_later_tail 13 (by kernel_rfl) (by kernel_rfl) ?_
   simp only [List.take_succ_cons, List.take_zero, List.drop_succ_cons, List.drop_zero]
   repeat (go_big_quiet_step ((fail)))
   refine wpQuiet_nil ?_
   intro _ hw9
   obtain ⟨nl, hw8⟩ := hw9
   subst hw8
   have HN : Hid (Below w1.heap.size w1 nl.w) := H2.out.trans (nl.h.mono hs2)
   have HCC := Lib.hid (HGC.out nl.w (HBW.out.trans (HN.out.mono HBW.out.size)))
   clear l0 l1 l2 l3 l4 l5 l6 l7 l8 k1 k2 k3
   go_wp2_with fail
   refine Calls.mono HCC.out ?_
   rintro e w5 ⟨rfl, hb5⟩
   have HB5 := Lib.hid (HN.out.trans (hb5.mono HN.out.size))
   clear hb5 HCC
   cases g
   ·have HF : Hid ((outOf a x).all G = false) := by
     unfold Hid
     rw [← HOO.out]
     exact List.all_eq_false.2 ⟨O[k], List.getElem_mem hkO, by rw [← HQ.out, ← HGG.out]; simp⟩
    go_wp2
    go_ret
    exact ⟨ret_bool HF.out.symm, HBW.out.trans (HB5.out.mono HBW.out.size)⟩
   ·go_wp2
    go_roundw
    case rel =>
     refine ⟨k + 1, by omega, by go_num, HB5.out, fun e he => ?_⟩
     rw [List.take_succ_eq_append_getElem hkO, List.mem_append, List.mem_singleton] at he
     rcases he with he | rfl
     ·exact HALL.out e he
     ·rw [← HQ.out, ← HGG.out]
    case measure => simp [intOf]; omega
  ·have HF : Hid ((outOf a x).all G = true) := by
    unfold Hid
    rw [← HOO.out]
    exact List.all_eq_true.2 fun e he => HALL.out e (by rw [List.take_of_length_le (by have := HOL.out; omega)]; exact he)
   go_wp2
   go_ret
   exact ⟨ret_bool HF.out.symm, HBW.out.trans (HBL.out.mono HBW.out.size)⟩

set_option maxRecDepth 100000 in
set_option maxHeartbeats 1000000 in
theorem simulated_plain (lo fid : Nat) (caps : Array Value) (N : PairSet) (a b : Lts) (la ea lb eb : Value) (x y : Int) (w : World) (hva : Valid a) (hvb : Valid b) (hla : SliceK 1 encS lo w la a.labels) (hea : SliceK 3 encE lo w ea a.edges)
  (hlb : SliceK 1 encS lo w lb b.labels) (heb : SliceK 3 encE lo w eb b.edges) (eg : ∀ args w, (callFunc fid args).run Tryz.prog w = .ok (.enter fid args) w) (hH : HasFn fid caps N w) :
  Calls Tryz.prog 73 #[.agg #[.int .i64 a.states, .int .i64 a.initial, la, ea, .int .i64 b.states, .int .i64 b.initial, lb, eb, .func (.func fid) #[] caps], .int .i64 0, .int .i64 x, .int .i64 y] w fun e w' => e = .returned (.bool (ansG a b N x y)) ∧ Below w.heap.size w w' := by
 obtain ⟨rb, hrb⟩ : ∃ rb, rb = w.heap.size := ⟨_, rfl⟩
 obtain ⟨W, hW⟩ : ∃ W, W = w.alloc (.cells #[.int .i64 a.states, .int .i64 a.initial, la, ea, .int .i64 b.states, .int .i64 b.initial, lb, eb, .func (.func fid) #[] caps] 101) := ⟨_, rfl⟩
 have hb : Below w.heap.size w W := by rw [hW]; exact (Below.refl _ _).alloc (Nat.le_refl _) _
 have hR : Blk W rb [.int .i64 a.states, .int .i64 a.initial, la, ea, .int .i64 b.states, .int .i64 b.initial, lb, eb, .func (.func fid) #[] caps] 101 := by rw [hW, hrb]; exact Blk.new w _ _
 have HAN : Hid (∀ w', Below W.heap.size W w' → Calls Tryz.prog 97 #[.agg #[.int .i64 a.states, .int .i64 a.initial, la, ea, .int .i64 b.states, .int .i64 b.initial, lb, eb, .func (.func fid) #[] caps], .int .i64 x, .int .i64 y, .func (.func 99) #[] #[]] w' fun e w'' => e = .returned (.bool (ansG a b N x y)) ∧ Below w'.heap.size w' w'') := fun w' hw' => by
  have hb' := hb.trans (hw'.mono hb.size)
  have := answered_any lo fid 99 caps a b la ea lb eb (fun e => strongB b N y (labAt a e) e.dst) x y w' hva (hla.below hb') (hea.below hb') (fun args w => by kernel_rfl) (fun w2 h2 e he => by
   have h3 := hb'.trans (h2.mono hb'.size)
   obtain ⟨i, hi, rfl⟩ := List.mem_iff_getElem.1 (List.mem_filter.1 he).1
   have hok := hva.edge i hi
   exact strongly_any lo fid caps N a b la ea lb eb x y _ (labAt a a.edges[i]) w2 hvb (hlb.below h3) (heb.below h3) eg (hH.below h3) hok.d0 (by have := hok.d1; have := hva.st1; omega))
  rw [answered_eq] at this
  exact this
 have HB := Lib.hid hb
 have HW := Lib.hid hW
 have HRB := Lib.hid hrb
 have hsW : w.heap.size ≤ W.heap.size := hb.size
 have HR := Lib.hid hR
 clear hva hvb hla hea hlb heb hH hb hR hW hrb
 go_enter Tryz.func73, Tryz.ntmps73
 go_wp2
 rw [← HW.out]
 try rw [← HRB.out]
 refine wp_region_later (by kernel_rfl) (by kernel_rfl) ?_
 repeat (go_big_quiet_step ((fail)))
 refine wpQuiet_nil ?_
 intro _ hw9
 obtain ⟨nl, hw8⟩ := hw9
 subst hw8
 have HNL := Lib.hid (HB.out.trans (nl.h.mono hsW))
 have HC := Lib.hid (HAN.out nl.w nl.h)
 have hRN := HR.out.below nl.h
 have r0 := hRN.cell 0 rfl
 have r1 := hRN.cell 1 rfl
 have r2 := hRN.cell 2 rfl
 have r3 := hRN.cell 3 rfl
 have r4 := hRN.cell 4 rfl
 have r5 := hRN.cell 5 rfl
 have r6 := hRN.cell 6 rfl
 have r7 := hRN.cell 7 rfl
 have r8 := hRN.cell 8 rfl
 have hsN : w.heap.size ≤ nl.w.heap.size := HNL.out.size
 clear hRN
 go_wp2_with fail
 refine Calls.mono HC.out ?_
 rintro e w2 ⟨rfl, hb2⟩
 have HB2 := Lib.hid (HNL.out.trans (hb2.mono hsN))
 clear hb2 HC
 go_wp2
 go_ret
 exact ⟨rfl, HB2.out⟩

end Go.Proofs.YtdkbbknhighebaaGreatDoor

namespace Go.Proofs.YtdkbbknhighebaaGreatDoor
open Go Go.RowKit


set_option maxRecDepth 100000 in
theorem has1_any (nb mb : Nat) (ps : List (Int × Int)) (x y : Int) (w : World) (hn : Blk w nb [.map (some mb)] 73) (hp : PairMap w mb ps) (hs : Small2 (x, y)) :
  Calls Tryz.prog 72 #[.int .i64 x, .int .i64 y, .pointer (some ⟨nb, 0, none⟩)] w fun e w' => e = .returned (.bool (setOf ps x y)) ∧ Below w.heap.size w w' := by
 have hl := hp.look hs
 unfold key2 at hl
 have n0 := hn.cell 0 rfl
 have HS : Hid (setOf ps x y = decide ((x, y) ∈ ps)) := rfl
 obtain ⟨b, hb⟩ : ∃ b, b = decide ((x, y) ∈ ps) := ⟨_, rfl⟩
 rw [← hb] at hl HS
 clear hn hp hs hb
 go_enter Tryz.func72, Tryz.ntmps72
 go_wp2
 go_ret
 exact ⟨ret_bool HS.out.symm, Below.refl _ _⟩
theorem hasFn_of {nb mb : Nat} {ps : List (Int × Int)} {w : World} (hn : Blk w nb [.map (some mb)] 73) (hp : PairMap w mb ps) : HasFn 72 #[.pointer (some ⟨nb, 0, none⟩)] (setOf ps) w :=
 fun w' hb x y hs => has1_any nb mb ps x y w' (hn.below hb) (hp.below hb) hs

/-- The two systems, the map under its name, and its pairs. -/
structure SimW (ab bb nb mb : Nat) (a b : Lts) (la ea lb eb : Value) (ps : List (Int × Int)) (w0 w : World) : Prop where
 bel : Below w0.heap.size w0 w
 low : w0.heap.size ≤ mb
 lown : w0.heap.size ≤ nb
 one : Blk w ab [.int .i64 a.states, .int .i64 a.initial, la, ea] 27
 two : Blk w bb [.int .i64 b.states, .int .i64 b.initial, lb, eb] 27
 name : Blk w nb [.map (some mb)] 73
 map : PairMap w mb ps
theorem SimW.below {ab bb nb mb : Nat} {a b : Lts} {la ea lb eb : Value} {ps : List (Int × Int)} {w0 w w' : World} (h : SimW ab bb nb mb a b la ea lb eb ps w0 w) (hb : Below w.heap.size w w') : SimW ab bb nb mb a b la ea lb eb ps w0 w' :=
 ⟨h.bel.trans (hb.mono h.bel.size), h.low, h.lown, h.one.below hb, h.two.below hb, h.name.below hb, h.map.below hb⟩
theorem SimW.push {ab bb nb mb : Nat} {a b : Lts} {la ea lb eb : Value} {ps : List (Int × Int)} {w0 w : World} (h : SimW ab bb nb mb a b la ea lb eb ps w0 w) {x y : Int} (hq : Small2 (x, y)) (hn : (x, y) ∉ ps) (hr : ps.length ≤ 1000000) :
  ∃ w', (Instr.mapUpdate 73 (.map (some mb)) (.agg #[.int .i64 x, .int .i64 y]) (.bool true)).run Tryz.prog w = .ok () w' ∧ SimW ab bb nb mb a b la ea lb eb (ps ++ [(x, y)]) w0 w' := by
 obtain ⟨w', h1, h2, h3⟩ := h.map.push hq hn hr
 exact ⟨w', h1, h.bel.grown h3 h.bel.size (fun k e => by cases e; exact h.low), h.low, h.lown, blk_grown h.one h3 (blk_set_ne h.one h.map.map), blk_grown h.two h3 (blk_set_ne h.two h.map.map), blk_grown h.name h3 (blk_set_ne h.name h.map.map), h2⟩
theorem SimW.kept {ab bb nb mb : Nat} {a b : Lts} {la ea lb eb : Value} {ps : List (Int × Int)} {w0 w w' : World} (h : SimW ab bb nb mb a b la ea lb eb ps w0 w) {k : Nat} (hg : w.grownBy w' (some k)) (hk : w0.heap.size ≤ k) (h1 : ab ≠ k) (h2 : bb ≠ k) (h3 : nb ≠ k) (h4 : mb ≠ k) : SimW ab bb nb mb a b la ea lb eb ps w0 w' :=
 ⟨h.bel.grown hg h.bel.size (fun j e => by cases e; exact hk), h.low, h.lown, blk_grown h.one hg h1, blk_grown h.two hg h2, blk_grown h.name hg h3, h.map.kept hg (by simpa using h4)⟩
theorem SimW.iter {ab bb nb mb : Nat} {a b : Lts} {la ea lb eb : Value} {ps : List (Int × Int)} {w0 w w' : World} (h : SimW ab bb nb mb a b la ea lb eb ps w0 w) {r m n : Nat} {seen : Array Nat} (hi : IterG w r m n seen) (hg : w.grownBy w' (some r)) (hr : w0.heap.size ≤ r) : SimW ab bb nb mb a b la ea lb eb ps w0 w' :=
 h.kept hg hr (blk_iter_ne h.one hi) (blk_iter_ne h.two hi) (blk_iter_ne h.name hi) (set_iter_ne h.map.map hi)
/-- Another map takes the name. -/
theorem SimW.turn {ab bb nb mb nm : Nat} {a b : Lts} {la ea lb eb : Value} {ps qs : List (Int × Int)} {w0 w : World} (h : SimW ab bb nb mb a b la ea lb eb ps w0 w) (hp : PairMap w nm qs) (hl : w0.heap.size ≤ nm) : SimW ab bb nb nm a b la ea lb eb qs w0 (w.setCell ⟨nb, 0, none⟩ (.map (some nm))) := by
 have hg := grown_setCell w ⟨nb, 0, none⟩ (.map (some nm))
 exact ⟨h.bel.setCell h.lown _, hl, h.lown, blk_grown h.one hg (blk_type_ne h.one h.name (by decide)), blk_grown h.two hg (blk_type_ne h.two h.name (by decide)), h.name.set 0 _, hp.kept hg (by simpa using (blk_set_ne h.name hp.map).symm)⟩
set_option maxRecDepth 100000 in
theorem PairMap.pushLit {w : World} {b : Nat} {ps : List (Int × Int)} (h : PairMap w b ps) {x y : Int} (hq : Small2 (x, y)) (hn : (x, y) ∉ ps) (hroom : ps.length ≤ 1000000) :
  ∃ w', (Instr.mapUpdate 73 (.map (some b)) (.agg #[.int .i64 x, .int .i64 y]) (.bool true)).run Tryz.prog w = .ok () w' ∧ PairMap w' b (ps ++ [(x, y)]) ∧ w.grownBy w' (some b) := by
 have h2 := h.push hq hn hroom
 unfold key2 at h2
 exact h2
set_option maxRecDepth 100000 in
theorem PairMap.lookLit {w : World} {b : Nat} {ps : List (Int × Int)} (h : PairMap w b ps) {x y : Int} (hq : Small2 (x, y)) :
  (Instr.lookup 73 (.map (some b)) (.agg #[.int .i64 x, .int .i64 y]) false).run Tryz.prog w = .ok (.bool (decide ((x, y) ∈ ps))) w := by
 have h2 := h.look hq
 unfold key2 at h2
 exact h2
/-- The first round in which the pair is missing. -/
def MissOk (q : Int × Int) (ps : List (Int × Int)) (m : Int) : Prop := (m = -1 ∧ q ∈ ps) ∨ (0 ≤ m ∧ q ∉ ps)
theorem MissOk.iff {q : Int × Int} {ps : List (Int × Int)} {m : Int} (h : MissOk q ps m) : m < 0 ↔ q ∈ ps := by
 rcases h with ⟨rfl, h⟩ | ⟨h0, h⟩
 ·exact ⟨fun _ => h, fun _ => by decide⟩
 ·exact ⟨fun h1 => by omega, fun h1 => absurd h1 h⟩
theorem MissOk.next {q : Int × Int} {A : PairAsk} {ps qs : List (Int × Int)} {m : Int} (h : MissOk q ps m) (hk : KeptA A ps qs) : m = -1 ∨ (0 ≤ m ∧ q ∉ qs) := by
 rcases h with ⟨rfl, -⟩ | ⟨h0, h⟩
 ·exact .inl rfl
 ·exact .inr ⟨h0, fun hc => h ((hk q).1 hc).1⟩
theorem pair_fresh {P x y : Nat} : ((x : Int), (y : Int)) ∉ pall P x ++ prow x y := by
 rw [List.mem_append, mem_pall, mem_prow]
 rintro (⟨⟨-, h⟩, -⟩ | ⟨-, -, h⟩)
 ·exact absurd h (Int.lt_irrefl _)
 ·exact absurd h (Int.lt_irrefl _)
theorem small_nat {x y : Nat} (hx : x < 40) (hy : y < 40) : Small2 ((x : Int), (y : Int)) := ⟨⟨by show (0 : Int) ≤ (x : Int); omega, by show (x : Int) < 40; omega⟩, by show (0 : Int) ≤ (y : Int); omega, by show (y : Int) < 40; omega⟩
theorem prow_len (x y : Nat) : (prow x y).length = y := by simp [prow]
theorem fill_len {P x y S : Nat} (hS : S ≤ 40) (hP : P ≤ 40) (hx : x < S) (hy : y < P) : (pall P x ++ prow x y).length ≤ 1000000 := by
 rw [List.length_append, pall_len, prow_len]
 have h := Nat.mul_le_mul (show x ≤ 40 by omega) hP
 omega

set_option maxRecDepth 100000 in
set_option maxHeartbeats 4000000 in
theorem simulation_any (lo S P : Nat) (κ : Int) (A : PairAsk) (a b : Lts) (la ea lb eb : Value) (w : World) (hκ : (κ != 1) = true) (hA : MonoA A) (hva : Valid a) (hvb : Valid b) (hS : (S : Int) = a.states) (hP : (P : Int) = b.states)
  (hla : SliceK 1 encS lo w la a.labels) (hea : SliceK 3 encE lo w ea a.edges) (hlb : SliceK 1 encS lo w lb b.labels) (heb : SliceK 3 encE lo w eb b.edges)
  (hSIM : ∀ (caps : Array Value) (N : PairSet) (w' : World), Below w.heap.size w w' → HasFn 72 caps N w' → ∀ x y : Int, Small2 (x, y) →
   Calls Tryz.prog 73 #[.agg #[.int .i64 a.states, .int .i64 a.initial, la, ea, .int .i64 b.states, .int .i64 b.initial, lb, eb, .func (.func 72) #[] caps], .int .i64 κ, .int .i64 x, .int .i64 y] w' fun e w'' => e = .returned (.bool (A N x y)) ∧ Below w'.heap.size w' w'') :
  Calls Tryz.prog 49 #[.agg #[.int .i64 a.states, .int .i64 a.initial, la, ea], .agg #[.int .i64 b.states, .int .i64 b.initial, lb, eb], .int .i64 κ] w fun e w' => ∃ (mb : Nat) (ps : List (Int × Int)) (m : Int), e = .returned (.tuple #[.map (some mb), .int .i64 m]) ∧ Below w.heap.size w w' ∧ PairMap w' mb ps ∧ GreatA A (allG a b) (setOf ps) ∧ (m < 0 ↔ (a.initial, b.initial) ∈ ps) := by
 obtain ⟨la1, la2, la3, rfl⟩ : ∃ p n c, la = .slice p n c := by obtain ⟨p, c, e, -⟩ := hla; exact ⟨_, _, _, e⟩
 obtain ⟨ea1, ea2, ea3, rfl⟩ : ∃ p n c, ea = .slice p n c := by obtain ⟨p, c, e, -⟩ := hea; exact ⟨_, _, _, e⟩
 obtain ⟨lb1, lb2, lb3, rfl⟩ : ∃ p n c, lb = .slice p n c := by obtain ⟨p, c, e, -⟩ := hlb; exact ⟨_, _, _, e⟩
 obtain ⟨eb1, eb2, eb3, rfl⟩ : ∃ p n c, eb = .slice p n c := by obtain ⟨p, c, e, -⟩ := heb; exact ⟨_, _, _, e⟩
 have hS40 : S ≤ 40 := by have := hva.st1; omega
 have hP40 : P ≤ 40 := by have := hvb.st1; omega
 have hi40 : Small2 (a.initial, b.initial) := ⟨⟨hva.in0, by have := hva.in1; have := hva.st1; show a.initial < 40; omega⟩, hvb.in0, by have := hvb.in1; have := hvb.st1; show b.initial < 40; omega⟩
 obtain ⟨ab, hab⟩ : ∃ ab, ab = w.heap.size := ⟨_, rfl⟩
 obtain ⟨bb, hbb⟩ : ∃ bb, bb = w.heap.size + 1 := ⟨_, rfl⟩
 obtain ⟨m0, hm0⟩ : ∃ m0, m0 = w.heap.size + 1 + 1 := ⟨_, rfl⟩
 obtain ⟨nb, hnb⟩ : ∃ nb, nb = w.heap.size + 1 + 1 + 1 := ⟨_, rfl⟩
 obtain ⟨W, hW⟩ : ∃ W, W = (((w.alloc (.cells #[.int .i64 a.states, .int .i64 a.initial, (.slice la1 la2 la3), (.slice ea1 ea2 ea3)] 27)).alloc (.cells #[.int .i64 b.states, .int .i64 b.initial, (.slice lb1 lb2 lb3), (.slice eb1 eb2 eb3)] 27)).alloc (.map #[] 0)).alloc (.cells #[.map (some (w.heap.size + 1 + 1))] 73) := ⟨_, rfl⟩
 have hb0 : Below w.heap.size w W := by rw [hW]; exact ((((Below.refl _ _).alloc (Nat.le_refl _) _).alloc (by simp) _).alloc (by simp; omega) _).alloc (by simp; omega) _
 have hM : SetMap W m0 [] := by
  have h := SetMap.made ((w.alloc (.cells #[.int .i64 a.states, .int .i64 a.initial, (.slice la1 la2 la3), (.slice ea1 ea2 ea3)] 27)).alloc (.cells #[.int .i64 b.states, .int .i64 b.initial, (.slice lb1 lb2 lb3), (.slice eb1 eb2 eb3)] 27))
  rw [World.size_alloc, World.size_alloc, ← hm0] at h
  rw [hW]
  exact h.below ((Below.refl _ _).alloc (Nat.le_refl _) _)
 have hSW : SimW ab bb nb m0 a b (.slice la1 la2 la3) (.slice ea1 ea2 ea3) (.slice lb1 lb2 lb3) (.slice eb1 eb2 eb3) [] w W := by
  refine ⟨hb0, by omega, by omega, ?_, ?_, ?_, ⟨hM, List.nodup_nil, fun q hq => by cases hq⟩⟩
  ·rw [hW, hab]; exact (((Blk.new w _ _).alloc _).alloc _).alloc _
  ·have h := ((Blk.new (w.alloc (.cells #[.int .i64 a.states, .int .i64 a.initial, (.slice la1 la2 la3), (.slice ea1 ea2 ea3)] 27)) [.int .i64 b.states, .int .i64 b.initial, (.slice lb1 lb2 lb3), (.slice eb1 eb2 eb3)] 27).alloc (.map #[] 0)).alloc (.cells #[.map (some (w.heap.size + 1 + 1))] 73)
   rw [World.size_alloc, ← hbb] at h
   rw [hW, ← hbb]
   exact h
  ·have h := Blk.new (((w.alloc (.cells #[.int .i64 a.states, .int .i64 a.initial, (.slice la1 la2 la3), (.slice ea1 ea2 ea3)] 27)).alloc (.cells #[.int .i64 b.states, .int .i64 b.initial, (.slice lb1 lb2 lb3), (.slice eb1 eb2 eb3)] 27)).alloc (.map #[] 0)) [.map (some (w.heap.size + 1 + 1))] 73
   rw [World.size_alloc, World.size_alloc, World.size_alloc, ← hnb, ← hm0] at h
   rw [hW, ← hm0]
   exact h
 have HSW := Lib.hid hSW
 have HW := Lib.hid hW
 have HAB := Lib.hid hab
 have HBB := Lib.hid hbb
 have HM0 := Lib.hid hm0
 have HNB := Lib.hid hnb
 have HA := Lib.hid hA
 have HI := Lib.hid hi40
 have HSIM := Lib.hid hSIM
 have HSS := Lib.hid hS
 have HPP := Lib.hid hP
 have HALL : Hid (setOf (pall P S) = allG a b) := setOf_all hS hP
 have hx0 := hSW.one.cell 0 rfl
 rw [← hS, hW, hab] at hx0
 have hmm := @run_makeMap Tryz.prog
 clear hA hva hvb hla hea hlb heb hSIM hi40 hab hbb hm0 hnb hW hb0 hM hSW hS hP
 go_enter Tryz.func49, Tryz.ntmps49
 go_wp2_with fail
 rw [← HW.out]
 rw [← HNB.out, ← HM0.out, ← HBB.out, ← HAB.out]
 clear hx0
 go_loopw [20] (fun v20 wr => ∃ x : Nat, x ≤ S ∧ v20 = .int .i64 x ∧ SimW ab bb nb m0 a b (.slice la1 la2 la3) (.slice ea1 ea2 ea3) (.slice lb1 lb2 lb3) (.slice eb1 eb2 eb3) (pall P x) w wr) (fun v20 _ => S - (intOf v20).toNat)
 case atStart => exact ⟨0, Nat.zero_le _, rfl, by simpa [pall] using HSW.out⟩
 case round =>
  clear HSW
  obtain ⟨x, hx, rfl, hsw⟩ := hrel
  obtain ⟨wC, rfl⟩ : ∃ wC : World, wC = wr := ⟨_, rfl⟩
  have HC := Lib.hid hsw
  by_cases hlt : x < S
  ·have hxi : (x : Int) < (S : Int) := by omega
   have p0 := hsw.two.cell 0 rfl
   rw [← HPP.out] at p0
   clear hsw
   go_wp2
   go_loopw [25] (fun v25 wr => ∃ y : Nat, y ≤ P ∧ v25 = .int .i64 y ∧ SimW ab bb nb m0 a b (.slice la1 la2 la3) (.slice ea1 ea2 ea3) (.slice lb1 lb2 lb3) (.slice eb1 eb2 eb3) (pall P x ++ prow x y) w wr) (fun v25 _ => P - (intOf v25).toNat)
   case atStart => exact ⟨0, Nat.zero_le _, rfl, by simpa [prow] using HC.out⟩
   case round =>
    clear p0
    obtain ⟨y, hy, rfl, hsw⟩ := hrel
    obtain ⟨wD, rfl⟩ : ∃ wD : World, wD = wr := ⟨_, rfl⟩
    have HD := Lib.hid hsw
    clear hsw
    by_cases hlt2 : y < P
    ·have hyi : (y : Int) < (P : Int) := by omega
     go_wp2
     refine wp_region_later (by kernel_rfl) (by kernel_rfl) ?_
     repeat (go_big_quiet_step ((fail)))
     refine wpQuiet_nil ?_
     intro _ hw9
     obtain ⟨nl, hw8⟩ := hw9
     subst hw8
     have HN := Lib.hid (HD.out.below nl.h)
     obtain ⟨w', hup, hsw'⟩ := HN.out.push (small_nat (by omega) (by omega)) pair_fresh (fill_len hS40 hP40 hlt hlt2)
     have n0 := HN.out.name.cell 0 rfl
     have HN2 := Lib.hid hsw'
     clear hsw'
     go_wp2
     go_roundw
     case rel => exact ⟨y + 1, by omega, by go_num, by rw [prow_succ, ← List.append_assoc]; exact HN2.out⟩
     case measure => simp [intOf]; omega
    ·have HY : Hid (y = P) := Lib.hid (show y = P by omega)
     go_wp2
     go_roundw
     case rel => exact ⟨x + 1, by omega, by go_num, by rw [pall_succ]; have h := HD.out; rw [HY.out] at h; exact h⟩
     case measure => simp [intOf]; omega
  ·have HXS : Hid (x = S) := Lib.hid (show x = S by omega)
   have a1 := hsw.one.cell 1 rfl
   have b1 := hsw.two.cell 1 rfl
   obtain ⟨ps0, hps0⟩ : ∃ ps0, ps0 = pall P S := ⟨_, rfl⟩
   have HPS := Lib.hid hps0
   have HSC : Hid (SimW ab bb nb m0 a b (.slice la1 la2 la3) (.slice ea1 ea2 ea3) (.slice lb1 lb2 lb3) (.slice eb1 eb2 eb3) ps0 w wC) := by unfold Hid; rw [hps0, ← HXS.out]; exact hsw
   have HLE : Hid (ps0.length ≤ 1600) := by
    unfold Hid
    rw [hps0, pall_len]
    exact Nat.mul_le_mul hS40 hP40
   have HAB0 : Hid (AboveA A (allG a b) (setOf ps0)) := by unfold Hid; rw [hps0, HALL.out]; exact AboveA.start _ _
   obtain ⟨W3, hW3⟩ : ∃ W3, W3 = wC.alloc (.cells #[.int .i64 a.initial, .int .i64 b.initial] 75) := ⟨_, rfl⟩
   obtain ⟨fb, hfb⟩ : ∃ fb, fb = wC.heap.size := ⟨_, rfl⟩
   have HS3 : Hid (SimW ab bb nb m0 a b (.slice la1 la2 la3) (.slice ea1 ea2 ea3) (.slice lb1 lb2 lb3) (.slice eb1 eb2 eb3) ps0 w W3) := by unfold Hid; rw [hW3]; exact HSC.out.below ((Below.refl _ _).alloc (Nat.le_refl _) _)
   have HF3 : Hid (Blk W3 fb [.int .i64 a.initial, .int .i64 b.initial] 75) := by unfold Hid; rw [hW3, hfb]; exact Blk.new _ _ _
   have HW3 := Lib.hid hW3
   have HFB := Lib.hid hfb
   obtain ⟨ai, hai⟩ : ∃ ai, ai = a.initial := ⟨_, rfl⟩
   obtain ⟨bi, hbi⟩ : ∃ bi, bi = b.initial := ⟨_, rfl⟩
   rw [← hai, ← hbi] at HW3 HF3 HI
   rw [← hai] at a1
   rw [← hbi] at b1
   have HAI := Lib.hid hai
   have HBI := Lib.hid hbi
   clear hsw hps0 hW3 hfb HC hx hai hbi
   go_wp2
   rw [← HW3.out, ← HFB.out]
   clear a1 b1
   go_loopg [12, 13] 1601 (fun gk v12 v13 wr => ∃ (mb : Nat) (ps : List (Int × Int)) (m r : Int), v12 = .int .i64 m ∧ v13 = .int .i64 r ∧ 0 ≤ r ∧ r + gk ≤ 1601 ∧ ps.length ≤ gk ∧ SimW ab bb nb mb a b (.slice la1 la2 la3) (.slice ea1 ea2 ea3) (.slice lb1 lb2 lb3) (.slice eb1 eb2 eb3) ps w wr ∧ Blk wr fb [.int .i64 ai, .int .i64 bi] 75 ∧ AboveA A (allG a b) (setOf ps) ∧ (m = -1 ∨ (0 ≤ m ∧ (ai, bi) ∉ ps)))
   case atStart => exact ⟨m0, ps0, -1, 0, rfl, rfl, by omega, by omega, Nat.le_succ_of_le HLE.out, HS3.out, HF3.out, HAB0.out, .inl rfl⟩
   case round =>
    clear HS3 HF3 HAB0 HLE HSC HPS HXS
    obtain ⟨mb, ps, m, r, rfl, rfl, hr0, hrg, hgk, hsw, hf, hab, hm⟩ := hrel
    obtain ⟨wE, rfl⟩ : ∃ wE : World, wE = wr := ⟨_, rfl⟩
    have HS := Lib.hid hsw
    have HF := Lib.hid hf
    have HAB2 := Lib.hid hab
    have HGK : Hid (r + gk ≤ 1601 ∧ ps.length ≤ gk) := ⟨hrg, hgk⟩
    have hr1 : r ≤ 1601 := by omega
    have n0 := hsw.name.cell 0 rfl
    have f0 := hf.cell 0 rfl
    have f1 := hf.cell 1 rfl
    have hlk := hsw.map.lookLit HI.out
    have hm2 : (m < 0 ∧ (ai, bi) ∈ ps) ∨ (m < 0 ∧ (ai, bi) ∉ ps) ∨ (¬ m < 0 ∧ (ai, bi) ∉ ps) := by
     rcases hm with h | ⟨h, h2⟩
     ·by_cases h3 : (ai, bi) ∈ ps
      ·exact .inl ⟨by omega, h3⟩
      ·exact .inr (.inl ⟨by omega, h3⟩)
     ·exact .inr (.inr ⟨by omega, h2⟩)
    have HM := Lib.hid hm
    have HR0 := Lib.hid hr0
    have a0 := hsw.one.cell 0 rfl
    have a1 := hsw.one.cell 1 rfl
    have a2 := hsw.one.cell 2 rfl
    have a3 := hsw.one.cell 3 rfl
    have b0 := hsw.two.cell 0 rfl
    have b1 := hsw.two.cell 1 rfl
    have b2 := hsw.two.cell 2 rfl
    have b3 := hsw.two.cell 3 rfl
    have hnl := hsw.name.lt
    have HPN := Lib.hid hsw.map.nodup
    have HPM := Lib.hid hsw.map.small
    have HML : Hid (mb < wE.heap.size) := hsw.map.map.lt
    have HLOW := Lib.hid hsw.bel.size
    obtain ⟨rbx, hrbx⟩ : ∃ rbx, rbx = wE.heap.size := ⟨_, rfl⟩
    obtain ⟨nm, hnm⟩ : ∃ nm, nm = wE.heap.size + 1 := ⟨_, rfl⟩
    obtain ⟨ir, hir⟩ : ∃ ir, ir = wE.heap.size + 1 + 1 := ⟨_, rfl⟩
    obtain ⟨PL, hPL⟩ : ∃ PL, PL = ps.length := ⟨_, rfl⟩
    have e1 : ((wE.alloc (.cells #[.int .i64 a.states, .int .i64 a.initial, (.slice la1 la2 la3), (.slice ea1 ea2 ea3), .int .i64 b.states, .int .i64 b.initial, (.slice lb1 lb2 lb3), (.slice eb1 eb2 eb3), .func (.func 72) #[] #[.pointer (some ⟨nb, 0, none⟩)]] 101)).alloc (.map #[] 0)).heap.size = wE.heap.size + 1 + 1 := by simp
    obtain ⟨W5, hW5⟩ : ∃ W5, W5 = (wE.alloc (.cells #[.int .i64 a.states, .int .i64 a.initial, (.slice la1 la2 la3), (.slice ea1 ea2 ea3), .int .i64 b.states, .int .i64 b.initial, (.slice lb1 lb2 lb3), (.slice eb1 eb2 eb3), .func (.func 72) #[] #[.pointer (some ⟨nb, 0, none⟩)]] 101)).alloc (.map #[] 0) := ⟨_, rfl⟩
    rw [← hW5] at e1
    have HE1 := Lib.hid e1
    obtain ⟨W6, hW6⟩ : ∃ W6, W6 = W5.alloc (.mapIter (some mb) PL #[] PL) := ⟨_, rfl⟩
    have hb5 : Below wE.heap.size wE W5 := by rw [hW5]; exact ((Below.refl _ _).alloc (Nat.le_refl _) _).alloc (by simp) _
    have hb56 : Below W5.heap.size W5 W6 := by rw [hW6]; exact (Below.refl _ _).alloc (Nat.le_refl _) _
    have hb6 : Below wE.heap.size wE W6 := hb5.trans (hb56.mono hb5.size)
    have HM5 : Hid (PairMap W5 mb ps) := hsw.map.below hb5
    have HS6 : Hid (SimW ab bb nb mb a b (.slice la1 la2 la3) (.slice ea1 ea2 ea3) (.slice lb1 lb2 lb3) (.slice eb1 eb2 eb3) ps w W6) := hsw.below hb6
    have HF6 : Hid (Blk W6 fb [.int .i64 ai, .int .i64 bi] 75) := hf.below hb6
    have HR6 : Hid (Blk W6 rbx [.int .i64 a.states, .int .i64 a.initial, (.slice la1 la2 la3), (.slice ea1 ea2 ea3), .int .i64 b.states, .int .i64 b.initial, (.slice lb1 lb2 lb3), (.slice eb1 eb2 eb3), .func (.func 72) #[] #[.pointer (some ⟨nb, 0, none⟩)]] 101) := by
     unfold Hid
     rw [hrbx]
     have h := (Blk.new wE [.int .i64 a.states, .int .i64 a.initial, (.slice la1 la2 la3), (.slice ea1 ea2 ea3), .int .i64 b.states, .int .i64 b.initial, (.slice lb1 lb2 lb3), (.slice eb1 eb2 eb3), .func (.func 72) #[] #[.pointer (some ⟨nb, 0, none⟩)]] 101).alloc (.map #[] 0)
     have h2 : Blk W5 wE.heap.size [.int .i64 a.states, .int .i64 a.initial, (.slice la1 la2 la3), (.slice ea1 ea2 ea3), .int .i64 b.states, .int .i64 b.initial, (.slice lb1 lb2 lb3), (.slice eb1 eb2 eb3), .func (.func 72) #[] #[.pointer (some ⟨nb, 0, none⟩)]] 101 := by rw [hW5]; exact h
     exact h2.below hb56
    have HN6 : Hid (PairMap W6 nm []) := by
     have h := SetMap.made (wE.alloc (.cells #[.int .i64 a.states, .int .i64 a.initial, (.slice la1 la2 la3), (.slice ea1 ea2 ea3), .int .i64 b.states, .int .i64 b.initial, (.slice lb1 lb2 lb3), (.slice eb1 eb2 eb3), .func (.func 72) #[] #[.pointer (some ⟨nb, 0, none⟩)]] 101))
     rw [World.size_alloc, ← hnm, ← hW5] at h
     exact ⟨h.below hb56, List.nodup_nil, fun q hq => by cases hq⟩
    have HI6 : Hid (IterG W6 ir mb PL #[]) := by
     have h := IterG.start W5 mb PL
     rw [← hW6, e1, ← hir] at h
     exact h
    have HW5 := Lib.hid hW5
    have HW6 := Lib.hid hW6
    have HRBX := Lib.hid hrbx
    have HNM := Lib.hid hnm
    have HIR := Lib.hid hir
    have HPL := Lib.hid hPL
    have HMN : Hid (mb ≠ nm) := by unfold Hid; have := HML.out; omega
    have hwn : w.heap.size ≤ nm := by have := HLOW.out; omega
    have hwi : w.heap.size ≤ ir := by have := HLOW.out; omega
    clear hsw hf hab hrg hgk hm hrbx hnm hir hPL hb5 hb56 hb6 hW5 hW6 e1
    have hpart : (m < 0 ∧ (ai, bi) ∈ ps) ∨ (m < 0 ∧ (ai, bi) ∉ ps) ∨ (¬ m < 0 ∧ (ai, bi) ∉ ps) := hm2
    clear hm2
    rcases hpart with ⟨h1, h2⟩ | ⟨h1, h2⟩ | ⟨h1, h2⟩
    case' inl =>
     have HMO : Hid (MissOk (ai, bi) ps m) := by
      rcases HM.out with h | ⟨h, -⟩
      ·exact .inl ⟨h, h2⟩
      ·exact absurd h1 (by omega)
     rw [decide_eq_true h2] at hlk
     have h3 : decide (m < 0) = true := decide_eq_true h1
     clear h2
    case' inr.inl =>
     have HMO : Hid (MissOk (ai, bi) ps r) := .inr ⟨HR0.out, h2⟩
     rw [decide_eq_false h2] at hlk
     have h3 : decide (m < 0) = true := decide_eq_true h1
     clear h2
    case' inr.inr =>
     have HMO : Hid (MissOk (ai, bi) ps m) := .inr ⟨by omega, h2⟩
     have h3 : decide (m < 0) = false := decide_eq_false h1
     clear h2 hlk
    all_goals (
     go_wp2_with (at_range; refine wpList_range_pairs rfl _ rfl rfl (by rw [← HW5.out]; exact HM5.out) ?_)
     try go_frame
     rw [← HW5.out]
     try rw [HE1.out]
     rw [← HIR.out, ← HNM.out, ← HRBX.out, ← HPL.out, ← HW6.out]
     clear a0 a1 a2 a3 b0 b1 b2 b3 n0 f0 f1
     go_loopg [68] 1601 (fun gk2 v68 wr => ∃ (seen : Array Nat) (qs : List (Int × Int)), PL - seen.size ≤ gk2 ∧ KeptSo (fun q => A (setOf ps) q.1 q.2) ps qs seen ∧ SimW ab bb nb mb a b (.slice la1 la2 la3) (.slice ea1 ea2 ea3) (.slice lb1 lb2 lb3) (.slice eb1 eb2 eb3) ps w wr ∧ Blk wr fb [.int .i64 ai, .int .i64 bi] 75 ∧ Blk wr rbx [.int .i64 a.states, .int .i64 a.initial, .slice la1 la2 la3, .slice ea1 ea2 ea3, .int .i64 b.states, .int .i64 b.initial, .slice lb1 lb2 lb3, .slice eb1 eb2 eb3, .func (.func 72) #[] #[.pointer (some ⟨nb, 0, none⟩)]] 101 ∧ PairMap wr nm qs ∧ IterG wr ir mb PL seen)
     case atStart => exact ⟨#[], [], by have := HGK.out; have := HPL.out; simp; omega, KeptSo.start _ _, HS6.out, HF6.out, HR6.out, HN6.out, HI6.out⟩
     case round =>
      clear HS6 HF6 HR6 HN6 HI6 HM5
      obtain ⟨seen, qs, hgk2, hks, hsw, hf, hrr, hn, hit⟩ := hrel
      obtain ⟨wF, rfl⟩ : ∃ wF : World, wF = wr := ⟨_, rfl⟩
      have HKS := Lib.hid hks
      have HSF := Lib.hid hsw
      have HFF := Lib.hid hf
      have HRF := Lib.hid hrr
      have HNF := Lib.hid hn
      have HIF := Lib.hid hit
      have HGK2 := Lib.hid hgk2
      clear hgk2 hks hsw hf hrr hn hit
      go_wp2_with (first
       | (at_next; refine wpList_next_pairs rfl _ rfl rfl HSF.out.map (by rw [← HPL.out]; exact HIF.out) ?_ ?_)
       | fail)
      ·intro hall
       have HKA : Hid (KeptA A ps qs) := HKS.out.all hall
       have n0 := HSF.out.name.cell 0 rfl
       have len1 := fun ty => HNF.out.len ty
       have len2 := fun ty => HSF.out.map.len ty
       obtain ⟨QL, hQL⟩ : ∃ QL, QL = qs.length := ⟨_, rfl⟩
       rw [← hQL] at len1
       rw [← HPL.out] at len2
       have HQL := Lib.hid hQL
       clear hall hQL
       by_cases hq : QL = PL
       ·have hqb : ((QL : Int) == (PL : Int)) = true := by subst hq; simp
        have HGR : Hid (GreatA A (allG a b) (setOf ps)) := HKA.out.done HNF.out.nodup HAB2.out (by rw [← HQL.out, ← HPL.out]; exact hq)
        clear hq
        go_wp2
        go_ret2
        exact ⟨mb, ps, _, rfl, HSF.out.bel, HSF.out.map, HGR.out, by rw [← HAI.out, ← HBI.out]; exact HMO.out.iff⟩
       ·have hqb : ((QL : Int) == (PL : Int)) = false := by simp; omega
        have HLT : Hid (qs.length < ps.length) := by
         unfold Hid
         have h1 := HKA.out.len HNF.out.nodup
         have h2 := HQL.out
         have h3 := HPL.out
         omega
        have HST := Lib.hid (HSF.out.turn HNF.out hwn)
        have HFT : Hid (Blk (wF.setCell ⟨nb, 0, none⟩ (.map (some nm))) fb [.int .i64 ai, .int .i64 bi] 75) := blk_grown HFF.out (grown_setCell wF ⟨nb, 0, none⟩ _) (blk_type_ne HFF.out HSF.out.name (by decide))
        have HABN : Hid (AboveA A (allG a b) (setOf qs)) := HKA.out.next HA.out HAB2.out
        have n1 := HSF.out.name.frozen 0
        clear hq
        go_wp2
        go_roundg qs.length
        case measure => have := HLT.out; have := HGK.out; omega
        case rel => exact ⟨nm, qs, _, r + 1, rfl, by go_num, by have := HR0.out; omega, by have := HLT.out; have := HGK.out; omega, Nat.le_refl _, HST.out, HFT.out, HABN.out, HMO.out.next HKA.out⟩
      ·intro i hi x2 y2 w1 hxy hns hit1 hg1 hen
       rw [← HPL.out] at hit1
       have hsm : Small2 (x2, y2) := HPM.out (x2, y2) (by rw [← hxy]; exact List.getElem_mem hi)
       have hs1 : SimW ab bb nb mb a b (.slice la1 la2 la3) (.slice ea1 ea2 ea3) (.slice lb1 lb2 lb3) (.slice eb1 eb2 eb3) ps w w1 := HSF.out.iter HIF.out hg1 hwi
       have hf1 := blk_grown HFF.out hg1 (blk_iter_ne HFF.out HIF.out)
       have hr1 := blk_grown HRF.out hg1 (blk_iter_ne HRF.out HIF.out)
       have hn1 : PairMap w1 nm qs := HNF.out.kept hg1 (by simpa using set_iter_ne HNF.out.map HIF.out)
       have hb2 : Below w1.heap.size w1 (w1.alloc (.cells #[.int .i64 x2, .int .i64 y2] 75)) := (Below.refl _ _).alloc (Nat.le_refl _) _
       obtain ⟨W8, hW8⟩ : ∃ W8, W8 = w1.alloc (.cells #[.int .i64 x2, .int .i64 y2] 75) := ⟨_, rfl⟩
       obtain ⟨pb, hpb⟩ : ∃ pb, pb = w1.heap.size := ⟨_, rfl⟩
       rw [← hW8] at hb2
       have HS8 : Hid (SimW ab bb nb mb a b (.slice la1 la2 la3) (.slice ea1 ea2 ea3) (.slice lb1 lb2 lb3) (.slice eb1 eb2 eb3) ps w W8) := hs1.below hb2
       have HF8 : Hid (Blk W8 fb [.int .i64 ai, .int .i64 bi] 75) := hf1.below hb2
       have HR8 : Hid (Blk W8 rbx [.int .i64 a.states, .int .i64 a.initial, .slice la1 la2 la3, .slice ea1 ea2 ea3, .int .i64 b.states, .int .i64 b.initial, .slice lb1 lb2 lb3, .slice eb1 eb2 eb3, .func (.func 72) #[] #[.pointer (some ⟨nb, 0, none⟩)]] 101) := hr1.below hb2
       have HN8 : Hid (PairMap W8 nm qs) := hn1.below hb2
       have HI8 : Hid (IterG W8 ir mb PL (seen.push i)) := hit1.below hb2
       have HP8 : Hid (Blk W8 pb [.int .i64 x2, .int .i64 y2] 75) := by unfold Hid; rw [hW8, hpb]; exact Blk.new _ _ _
       have HC8 := Lib.hid (HSIM.out #[.pointer (some ⟨nb, 0, none⟩)] (setOf ps) W8 HS8.out.bel (hasFn_of HS8.out.name HS8.out.map) x2 y2 hsm)
       obtain ⟨g, hg⟩ : ∃ g, g = A (setOf ps) x2 y2 := ⟨_, rfl⟩
       rw [← hg] at HC8
       have HGG := Lib.hid hg
       have HW8 := Lib.hid hW8
       have HPB := Lib.hid hpb
       have HSM2 := Lib.hid hsm
       have HXY := Lib.hid hxy
       have HNS := Lib.hid hns
       have HII := Lib.hid hi
       have r0 := HR8.out.cell 0 rfl
       have r1 := HR8.out.cell 1 rfl
       have r2 := HR8.out.cell 2 rfl
       have r3 := HR8.out.cell 3 rfl
       have r4 := HR8.out.cell 4 rfl
       have r5 := HR8.out.cell 5 rfl
       have r6 := HR8.out.cell 6 rfl
       have r7 := HR8.out.cell 7 rfl
       have r8 := HR8.out.cell 8 rfl
       have hrl := (hr1 : Blk w1 rbx [.int .i64 a.states, .int .i64 a.initial, .slice la1 la2 la3, .slice ea1 ea2 ea3, .int .i64 b.states, .int .i64 b.initial, .slice lb1 lb2 lb3, .slice eb1 eb2 eb3, .func (.func 72) #[] #[.pointer (some ⟨nb, 0, none⟩)]] 101).lt
       rw [hW8] at r0 r1 r2 r3 r4 r5 r6 r7 r8
       clear hit1 hsm hs1 hf1 hr1 hn1 hb2 hW8 hpb hg hxy hns hg1
       go_wp2_with fail
       rw [← HW8.out]
       try rw [← HPB.out]
       refine Calls.mono HC8.out ?_
       rintro e w9 ⟨rfl, hb9⟩
       have HS9 := Lib.hid (HS8.out.below hb9)
       have HF9 := Lib.hid (HF8.out.below hb9)
       have HR9 := Lib.hid (HR8.out.below hb9)
       have HN9 := Lib.hid (HN8.out.below hb9)
       have HI9 := Lib.hid (HI8.out.below hb9)
       have p0 := (HP8.out.below hb9).cell 0 rfl
       have p1 := (HP8.out.below hb9).cell 1 rfl
       clear hb9 r0 r1 r2 r3 r4 r5 r6 r7 r8 hrl hen
       cases g
       ·have HKN := Lib.hid (HKS.out.noAt HII.out HNS.out HXY.out (show A (setOf ps) x2 y2 = false from HGG.out.symm))
        clear p0 p1
        go_wp2
        go_roundg (PL - (seen.size + 1))
        case measure => have := HGK2.out; have := HKN.out.push_size; have := HPL.out; omega
        case rel => exact ⟨seen.push i, qs, by simp, HKN.out, HS9.out, HF9.out, HR9.out, HN9.out, HI9.out⟩
       ·have HKY := Lib.hid (HKS.out.yesAt HII.out HNS.out HXY.out (show A (setOf ps) x2 y2 = true from HGG.out.symm))
        have hfr := HKS.out.freshAt HPN.out HII.out HNS.out HXY.out
        have hfew := HKS.out.few HN9.out.nodup
        obtain ⟨w10, hup, hn10, hg10⟩ := HN9.out.pushLit HSM2.out hfr (by have := HGK.out; omega)
        have HN10 := Lib.hid hn10
        have HS10 : Hid (SimW ab bb nb mb a b (.slice la1 la2 la3) (.slice ea1 ea2 ea3) (.slice lb1 lb2 lb3) (.slice eb1 eb2 eb3) ps w w10) := HS9.out.kept hg10 hwn (blk_set_ne HS9.out.one HN9.out.map) (blk_set_ne HS9.out.two HN9.out.map) (blk_set_ne HS9.out.name HN9.out.map) HMN.out
        have HF10 := Lib.hid (blk_grown HF9.out hg10 (blk_set_ne HF9.out HN9.out.map))
        have HR10 := Lib.hid (blk_grown HR9.out hg10 (blk_set_ne HR9.out HN9.out.map))
        have HI10 : Hid (IterG w10 ir mb PL (seen.push i)) := HI9.out.kept hg10 (by simpa using (set_iter_ne HN9.out.map HI9.out).symm)
        clear hfr hfew hn10 hg10
        go_wp2
        go_roundg (PL - (seen.size + 1))
        case measure => have := HGK2.out; have := HKY.out.push_size; have := HPL.out; omega
        case rel => exact ⟨seen.push i, qs ++ [(x2, y2)], by simp, HKY.out, HS10.out, HF10.out, HR10.out, HN10.out, HI10.out⟩)

end Go.Proofs.YtdkbbknhighebaaGreatDoor
