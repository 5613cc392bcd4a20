/-
  What the implementation's out computes: the edges from a state.
  The program's teller: lonely.
  The library's slices.Backward at lists of formulas: its contract as an iterator; what joinedNodes' loop adds up, plainly.
  The library's sort and Compact at edges that stand in strictly ascending order: nothing turns.
  Two lists of nodes compared: the reference's l14Same.
  The library's slices.Equal at nodes; the first closure of joinedNodes.
  The library's slices.IndexFunc and slices.ContainsFunc at a slice of slices of texts, with a function that may lay blocks of its own.
  The library's Grow at nodes.
  The library's Concat at three lists of nodes.
-/
import Derived.Test.YtjoacldbgnphkaaGreatDoorE3
import Derived.Test.YtjoacldbgnphkaaGreatDoorE13
import Derived.Test.YtjoacldbgnphkaaGreatDoorE9
import Derived.RangeFuncNested
import Derived.RangeFuncBound
import Derived.RangeFuncCalls
import Derived.RangeFuncLeaves
import Derived.RangeFuncBox
import Derived.Shelf.Abstract
import Derived.Shelf.RegionOpen
import Derived.OwnWalkIn
import Derived.TacticsInMore
import Derived.LoopNIn
import Derived.LoopIn
import Derived.Test.YtjoacldbgnphkaaGreatDoorE6
import Derived.Laws.StructEq
import Derived.Test.YtjoacldbgnphkaaGreatDoorProg
import Derived.Test.YtjoacldbgnphkaaGreatDoorE1
import Derived.Test.YtjoacldbgnphkaaGreatDoorE5
import Derived.Maps.AppendAt
namespace Go.Proofs.YtjoacldbgnphkaaGreatDoor
open Go Go.RowKit

set_option maxRecDepth 100000 in
set_option maxHeartbeats 2000000 in
theorem out_any (lo : Nat) (t : Lts) (lv ev : Value) (s : Int) (w : World) (hsmall : t.edges.length ≤ 1073741824) (he : SliceK 3 encE lo w ev t.edges) :
  Calls Tryz.prog 87 #[.agg #[.int .i64 t.states, .int .i64 t.initial, lv, ev], .int .i64 s] w (MadeOut t s w) := by
 obtain ⟨ae, ce, rfl, hen, hec, hrow⟩ := he
 obtain ⟨i0, hi, hz0, hz1, hz2⟩ := info_parts info_edge2
 have HB0 : Hid (Below w.heap.size w (w.alloc (.cells #[.int .i64 t.states, .int .i64 t.initial, lv, .slice ae t.edges.length ce] 32))) := (Below.refl _ _).alloc (Nat.le_refl _) _
 go_enter Tryz.func87, Tryz.ntmps87
 go_wp2_with fail
 go_loopw [5, 11] (fun v i wr => ∃ k : Nat, k ≤ t.edges.length ∧ i = .int .i64 k ∧ Below w.heap.size w wr ∧ wr.ownsRow w.heap.size 66 3 v ((t.edges.take k).filter fun e => e.src == s).length (((t.edges.take k).filter fun e => e.src == s).flatMap encE)) (fun _ i _ => t.edges.length - (intOf i).toNat)
 case atStart => exact ⟨0, Nat.zero_le _, rfl, HB0.out, World.ownsRow_nil _ _ _ _⟩
 case round =>
  obtain ⟨k, hk, rfl, hbl, ho⟩ := hrel
  have HBL := Lib.hid hbl
  have HO := Lib.hid ho
  have hsz := hbl.size
  have hfl : ((t.edges.take k).filter fun e => e.src == s).length ≤ k := Nat.le_trans (List.length_filter_le _ _) (List.length_take_le _ _)
  clear hbl ho
  by_cases hlt : k < t.edges.length
  ·obtain ⟨be, oe, rfl, -, hbe, e1, e2, e3⟩ := (hrow.below HBL.out).edge hlt
   clear hrow
   have HBA : Hid (Below w.heap.size w (wr.alloc (.cells #[.int .i64 t.edges[k].src, .int .i64 t.edges[k].lab, .int .i64 t.edges[k].dst] 66))) := HBL.out.alloc hsz _
   have HOA : Hid ((wr.alloc (.cells #[.int .i64 t.edges[k].src, .int .i64 t.edges[k].lab, .int .i64 t.edges[k].dst] 66)).ownsRow w.heap.size 66 3 u5 ((t.edges.take k).filter fun e => e.src == s).length (((t.edges.take k).filter fun e => e.src == s).flatMap encE)) := HO.out.alloc _
   cases g : (t.edges[k].src == s)
   ·have HL : Hid ((t.edges.take (k + 1)).filter (fun e => e.src == s) = (t.edges.take k).filter fun e => e.src == s) := by
     unfold Hid
     rw [List.take_succ_eq_append_getElem hlt, List.filter_append]
     simp [g]
    go_wp2_with fail
    go_roundw
    case rel => exact ⟨k + 1, by omega, by go_num, HBA.out, by rw [HL.out]; exact HOA.out⟩
    case measure => simp [intOf]; omega
   ·have HL : Hid ((t.edges.take (k + 1)).filter (fun e => e.src == s) = ((t.edges.take k).filter fun e => e.src == s) ++ [t.edges[k]]) := by
     unfold Hid
     rw [List.take_succ_eq_append_getElem hlt, List.filter_append]
     simp [g]
    generalize hfs : (t.edges.take k).filter (fun e => e.src == s) = fs at *
    have HFS := Lib.hid hfs
    clear hfs
    go_wp2_with (at_builtin; refine wpList_append_own _ rfl _ _ 30 rfl w.heap.size 66 i0 (.agg #[.int .i64 0, .int .i64 0, .int .i64 0]) 3 24 Tryz.underlying30 hi hz0 hz1 hz2 rfl (by decide) _ _ _ rfl (HOA.out.alloc _) ⟨wr.heap.size + 1, 0, none⟩ 1 1 (encE t.edges[k]) rfl rfl ?c1 ?c2 ?c3 ?c4 ?c5 ?_)
    case c1 => have := three_new (wr.alloc (.cells #[.int .i64 t.edges[k].src, .int .i64 t.edges[k].lab, .int .i64 t.edges[k].dst] 66)) t.edges[k] 66; simpa using this
    case c2 => intro u hu; simp [encE] at hu; rcases hu with rfl | rfl | rfl <;> rfl
    case c3 => simp [maxLen]; omega
    case c4 => omega
    case c5 => simp; omega
    intro v' w1 ho1 hg1 _
    have HO2 : Hid (w1.ownsRow w.heap.size 66 3 v' (fs ++ [t.edges[k]]).length ((fs ++ [t.edges[k]]).flatMap encE)) := by
     unfold Hid
     rw [List.length_append, List.flatMap_append, List.flatMap_singleton]
     exact ho1
    have HB2 : Hid (Below w.heap.size w w1) := (HBA.out.alloc (by simp; omega) _).grown hg1 (by simp; omega) (fun b e => (HO.out.lt b e).1)
    clear ho1 hg1
    go_wp2_with fail
    go_roundw
    case rel => exact ⟨k + 1, by omega, by go_num, HB2.out, by rw [HL.out]; exact HO2.out⟩
    case measure => simp [intOf]; omega
  ·clear hrow
   go_wp2_with fail
   go_ret
   obtain rfl : k = t.edges.length := by omega
   exact ⟨_, rfl, HBL.out, by unfold outOf; have := HO.out; rw [List.take_length] at this; exact this⟩

end Go.Proofs.YtjoacldbgnphkaaGreatDoor

namespace Go.Proofs.YtjoacldbgnphkaaGreatDoor
open Go Go.RowKit


def lonB (p : List Int) (e o : Edge) : Bool := o.lab == e.lab && p.getD o.dst.toNat 0 == p.getD e.dst.toNat 0

set_option maxRecDepth 100000 in
set_option maxHeartbeats 2000000 in
theorem lon1_any (lo eb pb S : Nat) (pv : Value) (p : List Int) (e o : Edge) (w : World) (hp : p.length = S) (ho : 0 ≤ o.dst ∧ o.dst < S) (he : 0 ≤ e.dst ∧ e.dst < S) (hv : SliceK 1 encI lo w pv p) (hE : Blk w eb [.int .i64 e.src, .int .i64 e.lab, .int .i64 e.dst] 66) (hP : Blk w pb [pv] 69) :
  Calls Tryz.prog 89 #[.agg #[.int .i64 o.src, .int .i64 o.lab, .int .i64 o.dst], .pointer (some ⟨eb, 0, none⟩), .pointer (some ⟨pb, 0, none⟩)] w fun e' w' => e' = .returned (.bool (lonB p e o)) ∧ Below w.heap.size w w' := by
 obtain ⟨a, c, rfl, hcn, hcc, hrow⟩ := hv
 rw [hp] at hcn hP
 obtain ⟨A, hA⟩ : ∃ A : Nat, (A : Int) = o.dst := ⟨o.dst.toNat, by omega⟩
 obtain ⟨B, hB⟩ : ∃ B : Nat, (B : Int) = e.dst := ⟨e.dst.toNat, by omega⟩
 have hAS : A < S := by omega
 have hBS : B < S := by omega
 obtain ⟨b1, o1, rfl, -, hbs, c1⟩ := hrow.one (i := A) (by omega)
 obtain ⟨b2, o2, he2, -, -, c2⟩ := hrow.one (i := B) (by omega)
 simp only [Option.some.injEq, Addr.mk.injEq, and_true] at he2
 obtain ⟨rfl, rfl⟩ := he2
 simp only [encI, List.getElem?_cons_zero] at c1 c2
 have g1 : p.getD o.dst.toNat 0 = p[A] := by rw [show o.dst.toNat = A from by omega, List.getD_eq_getElem?_getD, List.getElem?_eq_getElem (by omega)]; rfl
 have g2 : p.getD e.dst.toNat 0 = p[B] := by rw [show e.dst.toNat = B from by omega, List.getD_eq_getElem?_getD, List.getElem?_eq_getElem (by omega)]; rfl
 have HLB : Hid (lonB p e o = (o.lab == e.lab && p[A] == p[B])) := by unfold Hid lonB; rw [g1, g2]
 obtain ⟨x, hx⟩ : ∃ x, x = p[A] := ⟨_, rfl⟩
 obtain ⟨y, hy⟩ : ∃ y, y = p[B] := ⟨_, rfl⟩
 rw [← hx] at c1 HLB
 rw [← hy] at c2 HLB
 obtain ⟨W, hW⟩ : ∃ W, W = w.alloc (.cells #[.int .i64 o.src, .int .i64 o.lab, .int .i64 o.dst] 66) := ⟨_, rfl⟩
 have hB0 : Below w.heap.size w W := by rw [hW]; exact (Below.refl _ _).alloc (Nat.le_refl _) _
 obtain ⟨ob, hob⟩ : ∃ ob, ob = w.heap.size := ⟨_, rfl⟩
 have hOB : Blk W ob [.int .i64 o.src, .int .i64 o.lab, .int .i64 o.dst] 66 := by rw [hW, hob]; exact Blk.new w _ _
 have hEW := hE.below hB0
 have hPW := hP.below hB0
 have q1 := hOB.cell 1 rfl
 have q2 := hOB.cell 2 rfl
 have q3 := hEW.cell 1 rfl
 have q4 := hEW.cell 2 rfl
 rw [← hA] at q2
 rw [← hB] at q4
 obtain ⟨ol, hol⟩ : ∃ ol, ol = o.lab := ⟨_, rfl⟩
 obtain ⟨el, hel⟩ : ∃ el, el = e.lab := ⟨_, rfl⟩
 rw [← hol] at q1 HLB
 rw [← hel] at q3 HLB
 have a1 := later_cell hOB.lt q1
 have a2 := later_cell hOB.lt q2
 have a3 := later_cell hEW.lt q3
 have a4 := later_cell hEW.lt q4
 have a5 := later_cell hPW.lt (hPW.cell 0 rfl)
 have hbW : b1 < W.heap.size := Nat.lt_of_lt_of_le hbs hB0.size
 have a6 := later_cell hbW (keeps hB0 hbs c1)
 have a7 := later_cell hbW (keeps hB0 hbs c2)
 have HB0 := Lib.hid hB0
 have HWE := Lib.hid hW
 have HOE := Lib.hid hob
 clear hx hy g1 g2 hrow hE hP hp hW hob hOB hEW hPW q1 q2 q3 q4 hol hel hA hB ho he c1 c2 hB0
 go_enter Tryz.func89, Tryz.ntmps89
 cases g : (ol == el)
 ·have HLB2 : Hid (lonB p e o = false) := by unfold Hid; rw [HLB.out, g]; rfl
  go_wp2
  rw [← HWE.out]
  try rw [← HOE.out]
  refine wp_region_later (by kernel_rfl) (by kernel_rfl) ?_
  repeat (go_big_quiet_step ((fail)))
  refine wpQuiet_nil ?_
  intro _ hw9
  obtain ⟨nl, hw8⟩ := hw9
  subst hw8
  go_wp2
  go_ret
  exact ⟨by rw [HLB2.out]; rfl, HB0.out.trans (nl.h.mono HB0.out.size)⟩
 ·have HLB2 : Hid (lonB p e o = (x == y)) := by unfold Hid; rw [HLB.out, g]; rfl
  go_wp2
  rw [← HWE.out]
  try rw [← HOE.out]
  refine wp_region_later (by kernel_rfl) (by kernel_rfl) ?_
  repeat (go_big_quiet_step ((fail)))
  refine wpQuiet_nil ?_
  intro _ hw9
  obtain ⟨nl, hw8⟩ := hw9
  subst hw8
  go_wp2
  go_ret
  exact ⟨by rw [HLB2.out]; rfl, HB0.out.trans (nl.h.mono HB0.out.size)⟩

theorem lonely_results {w : World} {b : Nat} {x y z : Value} {tmps : Array Value} (hc : tmps.getD 8 undef = .pointer (some ⟨b, 0, none⟩)) (hb : Blk w b [x, y, z] 66) :
  (results Tryz.f73 tmps).run Tryz.prog w = .ok (.tuple #[.agg #[x, y, z], tmps.getD 9 undef]) w := by
 have h0 := hb.cell 0 rfl
 have h1 := hb.cell 1 rfl
 have h2 := hb.cell 2 rfl
 simp only [Array.getD_eq_getD_getElem?] at hc
 simp [results, Tryz.results73, go_sem, hc, h0, h1, h2, Result.andThen]

/-- What lonely answers. -/
def lonV (o : Option Edge) : Value := .tuple #[.agg #[.int .i64 (o.getD ⟨0, 0, 0⟩).src, .int .i64 (o.getD ⟨0, 0, 0⟩).lab, .int .i64 (o.getD ⟨0, 0, 0⟩).dst], .bool o.isSome]
theorem lone_find {t : Lts} {p : List Int} {a b : Int} {i : Nat} (hi : i < (outOf t a).length) (hn : ∀ j (h : j < (outOf t a).length), j < i → metB t p (outOf t a)[j] b = true) (h : metB t p (outOf t a)[i] b = false) : loneE t p a b = some (outOf t a)[i] := by
 unfold loneE
 rw [List.find?_eq_some_iff_getElem]
 refine ⟨by rw [h]; rfl, i, hi, rfl, fun j hj => ?_⟩
 rw [hn j (by omega) hj]
 rfl
theorem lone_no {t : Lts} {p : List Int} {a b : Int} (hn : ∀ j (h : j < (outOf t a).length), metB t p (outOf t a)[j] b = true) : loneE t p a b = none := by
 unfold loneE
 rw [List.find?_eq_none]
 intro e he
 obtain ⟨i, hi, rfl⟩ := List.mem_iff_getElem.1 he
 rw [hn i hi]
 simp

set_option maxRecDepth 100000 in
set_option maxHeartbeats 4000000 in
theorem lonely_any (xb mb lo S : Nat) (t : Lts) (lv ev rv : Value) (a b : Int) (k : Nat) (w : World) (hv : Valid t) (hS : (S : Int) = t.states) (hk : k ≤ lastR t) (hx : Tel w xb mb lo t lv ev rv) :
  Calls Tryz.prog 73 #[.pointer (some ⟨xb, 0, none⟩), .int .i64 a, .int .i64 b, .int .i64 k] w fun e w' => e = .returned (lonV (loneE t (lev t k) a b)) ∧ Below w.heap.size w w' := by
 have HV := Lib.hid hv
 have HSS := Lib.hid hS
 have HX := Lib.hid hx
 obtain ⟨p, hp⟩ : ∃ p, p = lev t k := ⟨_, rfl⟩
 have HPL : Hid (p.length = S) := by unfold Hid; rw [hp, lev_len]; omega
 have hmost := hv.most
 have hlast := (last_ok hv).1
 have hs1 := hv.st1
 obtain ⟨ra, rc, hre⟩ : ∃ la lc, rv = .slice la (lastR t + 1) lc := by
  obtain ⟨vs, hl, ⟨a, c, rfl, -⟩, -⟩ := hx.rnds
  rw [levs_len] at hl
  exact ⟨a, c, by rw [hl]⟩
 subst hre
 obtain ⟨bo, oo, pa, pc, hve, hbo, hpc, hslw⟩ : ∃ b o pa pc, ra = some ⟨b, o, none⟩ ∧ b < w.heap.size ∧ w.cell? ⟨b, o + k, none⟩ = some (.slice pa S pc) ∧ SliceK 1 encI lo w (.slice pa S pc) p := by
  have hkl : k < (levs t).length := by rw [levs_len]; omega
  obtain ⟨vs, hl, ⟨a9, c9, he, hn, hc, hr⟩, hrow⟩ := hx.rnds
  obtain ⟨b, o, rfl, hlo, hb, hcell⟩ := hr.one (i := k) (by omega)
  obtain ⟨pa, pc, he2, h1, h2, h3⟩ := hrow k (by omega) hkl
  have hlk : (levs t)[k] = p := by
   have h := levs_get (t := t) (k := k) (by omega)
   rw [List.getElem?_eq_getElem hkl] at h
   rw [hp]
   exact Option.some.inj h
  rw [hlk] at he2 h1 h3
  have hpS := HPL.out
  simp only [Value.slice.injEq] at he
  refine ⟨b, o, pa, pc, he.1, hb, ?_, pa, pc, by rw [hpS], h1, h2, h3⟩
  rw [hcell]
  simp [encV, he2, hpS]
 subst hve
 have HSP := Lib.hid hslw
 obtain ⟨L, hL⟩ : ∃ L, L = lastR t := ⟨_, rfl⟩
 rw [← hL] at hk hlast hx
 have hL40 : L < 40 := by omega
 have HX := Lib.hid hx
 rw [← hp]
 obtain ⟨rb, hrb⟩ : ∃ rb, rb = w.heap.size := ⟨_, rfl⟩
 obtain ⟨W, hW⟩ : ∃ W, W = (w.alloc (.cells #[.int .i64 0, .int .i64 0, .int .i64 0] 66)).alloc (.cells #[.slice pa S pc] 69) := ⟨_, rfl⟩
 have hB0 : Below w.heap.size w W := by rw [hW]; exact ((Below.refl _ _).alloc (Nat.le_refl _) _).alloc (by simp) _
 have hRB : Blk W rb [.int .i64 0, .int .i64 0, .int .i64 0] 66 := by rw [hW, hrb]; exact (Blk.new w _ _).alloc _
 have hPB : Blk W (rb + 1) [.slice pa S pc] 69 := by
  have h := Blk.new (w.alloc (.cells #[.int .i64 0, .int .i64 0, .int .i64 0] 66)) [.slice pa S pc] 69
  rw [World.size_alloc, ← hrb] at h
  rw [hW]
  exact h
 have HRB := Lib.hid hRB
 have HPB := Lib.hid hPB
 have HB0 := Lib.hid hB0
 have HWE := Lib.hid hW
 have HRE := Lib.hid hrb
 have HXW := Lib.hid (hx.below hB0)
 have x4 := hx.box.cell 4 rfl
 have hxl := hx.box.lt
 have HOUT : Hid (∀ (s : Int) (w' : World), Below w.heap.size w w' → Calls Tryz.prog 87 #[.agg #[.int .i64 t.states, .int .i64 t.initial, lv, ev], .int .i64 s] w' (MadeOut t s w')) := fun s w' hb => out_any lo t lv ev s w' (by omega) (HX.out.below hb).edgs
 have HO1 := Lib.hid (HOUT.out a W hB0)
 have xw0 := HXW.out.box.cell 0 rfl
 have xw1 := HXW.out.box.cell 1 rfl
 have xw2 := HXW.out.box.cell 2 rfl
 have xw3 := HXW.out.box.cell 3 rfl
 have HIP : Hid (InP t p) := by unfold Hid; rw [hp]; exact lev_in hv k
 have hszW : w.heap.size ≤ W.heap.size := hB0.size
 have hboW := keeps hB0 hbo hpc
 clear hv hS hx hL hp hslw hW hB0 hrb hRB hPB hlast hs1 hmost
 rw [HWE.out] at xw0 xw1 xw2 xw3
 go_enter Tryz.func73, Tryz.ntmps73
 go_wp2_with fail
 rw [← HWE.out, ← HRE.out]
 refine Calls.mono HO1.out ?_
 rintro e w2 ⟨ov, rfl, hb2, ho2⟩
 obtain ⟨oa, oc, rfl, -, -⟩ := owns_slice ho2
 have HOS : Hid (SliceK 3 encE W.heap.size w2 (.slice oa (outOf t a).length oc) (outOf t a)) := SliceK.of_owns (e := 66) encE_len rfl ho2
 have HB2 := Lib.hid hb2
 have HBW2 : Hid (Below w.heap.size w w2) := HB0.out.trans (hb2.mono hszW)
 obtain ⟨M, hM⟩ : ∃ M, M = (outOf t a).length := ⟨_, rfl⟩
 obtain ⟨arow, hrowK⟩ : ∃ x : Unit, RowK 3 encE W.heap.size w2 oa (outOf t a) := ⟨(), by
  obtain ⟨a9, c9, e9, -, -, h9⟩ := id HOS.out
  simp only [Value.slice.injEq] at e9
  rw [e9.1]
  exact h9⟩
 have HRK := Lib.hid hrowK
 rw [← hM] at HOS ⊢
 have HM := Lib.hid hM
 have HRB2 := Lib.hid (HRB.out.below hb2)
 have HPB2 := Lib.hid (HPB.out.below hb2)
 have hM300 : M ≤ 300 := by
  have h1 := List.length_filter_le (fun e : Edge => e.src == a) t.edges
  have h2 := HV.out.most
  have h3 : (outOf t a).length ≤ t.edges.length := h1
  omega
 have hsz2 : w.heap.size ≤ w2.heap.size := HBW2.out.size
 clear hb2 ho2 hM hrowK HO1 x4 xw0 xw1 xw2 xw3 hpc hboW
 go_wp2_with fail
 go_loopw [27] (fun v27 wr => ∃ i : Nat, i ≤ M ∧ v27 = .int .i64 i ∧ Below w2.heap.size w2 wr ∧ ∀ j (h : j < (outOf t a).length), j < i → metB t p (outOf t a)[j] b = true) (fun v27 _ => M - (intOf v27).toNat)
 case atStart => exact ⟨0, Nat.zero_le _, rfl, Below.refl _ _, fun _ _ h => absurd h (Nat.not_lt_zero _)⟩
 case round =>
  obtain ⟨i, hi, rfl, hbl, hall⟩ := hrel
  obtain ⟨wC, rfl⟩ : ∃ wC : World, wC = wr := ⟨_, rfl⟩
  have HBC := Lib.hid hbl
  have HALL := Lib.hid hall
  have hszC := hbl.size
  have HRB3 := Lib.hid (HRB2.out.below hbl)
  clear hbl hall
  by_cases hlt : i < M
  ·have hiM : i < (outOf t a).length := by rw [← HM.out]; exact hlt
   obtain ⟨be, oe, rfl, -, hbe, e1, e2, e3⟩ := (HRK.out.below HBC.out).edge hiM
   have hok := out_edge HV.out (List.getElem_mem hiM)
   obtain ⟨ed, hed⟩ : ∃ ed, ed = (outOf t a)[i] := ⟨_, rfl⟩
   have HHIT : Hid (metB t p ed b = false → loneE t p a b = some ed) := fun h => by rw [hed] at h ⊢; exact lone_find hiM HALL.out h
   have HMIS : Hid (metB t p ed b = true → ∀ j (h : j < (outOf t a).length), j < i + 1 → metB t p (outOf t a)[j] b = true) := fun h j hj hlt => by
    rcases Nat.lt_succ_iff_lt_or_eq.1 hlt with h2 | h2
    ·exact HALL.out j hj h2
    ·subst h2; rw [← hed]; exact h
   rw [← hed] at e1 e2 e3 hok
   obtain ⟨eb, heb⟩ : ∃ eb, eb = wC.heap.size := ⟨_, rfl⟩
   obtain ⟨WE, hWE⟩ : ∃ WE, WE = wC.alloc (.cells #[.int .i64 ed.src, .int .i64 ed.lab, .int .i64 ed.dst] 66) := ⟨_, rfl⟩
   have hbE : Below wC.heap.size wC WE := by rw [hWE]; exact (Below.refl _ _).alloc (Nat.le_refl _) _
   have HEB : Hid (Blk WE eb [.int .i64 ed.src, .int .i64 ed.lab, .int .i64 ed.dst] 66) := by unfold Hid; rw [hWE, heb]; exact Blk.new wC _ _
   have HB2E : Hid (Below w2.heap.size w2 WE) := HBC.out.trans (hbE.mono hszC)
   have HBWE : Hid (Below w.heap.size w WE) := HBW2.out.trans (HB2E.out.mono hsz2)
   have HRBE := Lib.hid (HRB3.out.below hbE)
   have HPBE := Lib.hid (HPB2.out.below HB2E.out)
   have HOC := Lib.hid (HOUT.out b WE HBWE.out)
   have HXE := Lib.hid (HX.out.below HBWE.out)
   have x0 := HXE.out.box.cell 0 rfl
   have x1 := HXE.out.box.cell 1 rfl
   have x2 := HXE.out.box.cell 2 rfl
   have x3 := HXE.out.box.cell 3 rfl
   have HWEE := Lib.hid hWE
   have HEBE := Lib.hid heb
   have HOK := Lib.hid hok
   have HEDE := Lib.hid hed
   have hszE := HBWE.out.size
   rw [hWE] at x0 x1 x2 x3
   clear hed heb hWE hbE hok
   go_wp2_with fail
   rw [← HWEE.out]
   try rw [← HEBE.out]
   refine Calls.mono HOC.out ?_
   rintro e w4 ⟨ov4, rfl, hb4, ho4⟩
   have hos4 : SliceK 3 encE WE.heap.size w4 ov4 (outOf t b) := SliceK.of_owns (e := 66) encE_len rfl ho4
   obtain ⟨oa4, oc4, rfl, -, -⟩ := owns_slice ho4
   have HB4 := Lib.hid hb4
   have HEB4 := HEB.out.below hb4
   have HPB4 := HPBE.out.below hb4
   have HSP4 := HSP.out.below (HBWE.out.trans (hb4.mono hszE))
   have HCF := Lib.hid (ContainsFuncE WE.heap.size _ (outOf t b) 89 #[.pointer (some ⟨eb, 0, none⟩), .pointer (some ⟨rb + 1, 0, none⟩)] (lonB p ed) w4 hos4 (fun args w => by kernel_rfl) (fun w' hb o ho => by
    have hoo := out_edge HV.out ho
    have h := lon1_any lo eb (rb + 1) S (.slice pa S pc) p ed o w' HPL.out (by rw [HSS.out]; exact ⟨hoo.d0, hoo.d1⟩) (by rw [HSS.out]; exact ⟨HOK.out.d0, HOK.out.d1⟩) (HSP4.below hb) (HEB4.below hb) (HPB4.below hb)
    exact h))
   have HMET : Hid ((outOf t b).any (lonB p ed) = metB t p ed b) := rfl
   rw [HMET.out] at HCF
   have HRB4 := Lib.hid (HRBE.out.below hb4)
   have HE4 := Lib.hid HEB4
   have hsz4 : WE.heap.size ≤ w4.heap.size := hb4.size
   obtain ⟨QM, hQM⟩ : ∃ QM, QM = (outOf t b).length := ⟨_, rfl⟩
   rw [← hQM] at HCF ⊢
   clear hos4 ho4 hb4 HEB4 HPB4 HSP4 HOC x0 x1 x2 x3 e1 e2 e3 hQM
   cases hmt : metB t p ed b
   ·have HL := Lib.hid (HHIT.out hmt)
    rw [hmt] at HCF
    clear hmt
    go_wp2_with fail
    refine Calls.mono HCF.out ?_
    rintro e w5 ⟨rfl, hb5⟩
    have HRB5 := Lib.hid (HRB4.out.below hb5)
    have HE5 := Lib.hid (HE4.out.below hb5)
    have HB5 : Hid (Below w.heap.size w w5) := (HBWE.out.trans (HB4.out.mono hszE)).trans (hb5.mono (by omega))
    have k0 := HE5.out.cell 0 rfl
    have k1 := HE5.out.cell 1 rfl
    have k2 := HE5.out.cell 2 rfl
    have r0 := HRB5.out.cell 0 rfl
    have r1 := HRB5.out.cell 1 rfl
    have r2 := HRB5.out.cell 2 rfl
    have s0 := HRB5.out.frozen 0
    have s1 := HRB5.out.frozen 1
    have s2 := HRB5.out.frozen 2
    have HRB6 : Hid (Blk (((w5.setCell ⟨rb, 0, none⟩ (.int .i64 ed.src)).setCell ⟨rb, 1, none⟩ (.int .i64 ed.lab)).setCell ⟨rb, 2, none⟩ (.int .i64 ed.dst)) rb [.int .i64 ed.src, .int .i64 ed.lab, .int .i64 ed.dst] 66) := ((HRB5.out.set 0 _).set 1 _).set 2 _
    have hrbl : w.heap.size ≤ rb := by rw [HRE.out]; exact Nat.le_refl _
    have HB6 : Hid (Below w.heap.size w (((w5.setCell ⟨rb, 0, none⟩ (.int .i64 ed.src)).setCell ⟨rb, 1, none⟩ (.int .i64 ed.lab)).setCell ⟨rb, 2, none⟩ (.int .i64 ed.dst))) := ((HB5.out.setCell hrbl _).setCell hrbl _).setCell hrbl _
    clear hb5 HCF
    go_wp2_with fail
    refine bodyPost_ret (lonely_results rfl HRB6.out) rfl ?_
    exact ⟨by rw [HL.out]; rfl, HB6.out⟩
   ·have HL := Lib.hid (HMIS.out hmt)
    rw [hmt] at HCF
    clear hmt
    go_wp2_with fail
    refine Calls.mono HCF.out ?_
    rintro e w5 ⟨rfl, hb5⟩
    have HB5 : Hid (Below w2.heap.size w2 w5) := (HB2E.out.trans (HB4.out.mono HB2E.out.size)).trans (hb5.mono (by have := HB2E.out.size; omega))
    clear hb5 HCF
    go_wp2_with fail
    go_roundw
    case rel => exact ⟨i + 1, by omega, by go_num, HB5.out, HL.out⟩
    case measure => simp [intOf]; omega
  ·have HNO : Hid (loneE t p a b = none) := lone_no fun j hj => HALL.out j hj (by have := HM.out; omega)
   have r0 := HRB3.out.cell 0 rfl
   have r1 := HRB3.out.cell 1 rfl
   have r2 := HRB3.out.cell 2 rfl
   have s0 := HRB3.out.frozen 0
   have s1 := HRB3.out.frozen 1
   have s2 := HRB3.out.frozen 2
   have HRB6 : Hid (Blk (((wC.setCell ⟨rb, 0, none⟩ (.int .i64 0)).setCell ⟨rb, 1, none⟩ (.int .i64 0)).setCell ⟨rb, 2, none⟩ (.int .i64 0)) rb [.int .i64 0, .int .i64 0, .int .i64 0] 66) := ((HRB3.out.set 0 _).set 1 _).set 2 _
   have hrbl : w.heap.size ≤ rb := by rw [HRE.out]; exact Nat.le_refl _
   have HB6 : Hid (Below w.heap.size w (((wC.setCell ⟨rb, 0, none⟩ (.int .i64 0)).setCell ⟨rb, 1, none⟩ (.int .i64 0)).setCell ⟨rb, 2, none⟩ (.int .i64 0))) := (((HBW2.out.trans (HBC.out.mono hsz2)).setCell hrbl _).setCell hrbl _).setCell hrbl _
   go_wp2_with fail
   refine bodyPost_ret (lonely_results rfl HRB6.out) rfl ?_
   exact ⟨by rw [HNO.out]; rfl, HB6.out⟩

end Go.Proofs.YtjoacldbgnphkaaGreatDoor

namespace Go.Proofs.YtjoacldbgnphkaaGreatDoor
open Go Go.RowKit


attribute [local go_sem] Oper.semAt_some

/-- What a round of the loop keeps: all that lay ahead of it but the one box. -/
def KeepsBut (n₁ ob : Nat) (W W' : World) : Prop := W.heap.size ≤ W'.heap.size ∧ ∀ k, k < n₁ → k ≠ ob → W'.heap[k]? = W.heap[k]?
theorem KeepsBut.refl (n₁ ob : Nat) (W : World) : KeepsBut n₁ ob W W := ⟨Nat.le_refl _, fun _ _ _ => rfl⟩
theorem KeepsBut.trans {n₁ ob : Nat} {A B C : World} (h : KeepsBut n₁ ob A B) (k : KeepsBut n₁ ob B C) : KeepsBut n₁ ob A C := ⟨Nat.le_trans h.1 k.1, fun i hi hn => (k.2 i hi hn).trans (h.2 i hi hn)⟩
theorem KeepsBut.cell {n₁ ob : Nat} {A B : World} (h : KeepsBut n₁ ob A B) {b o : Nat} (hb : b < n₁) (hn : b ≠ ob) : B.cell? ⟨b, o, none⟩ = A.cell? ⟨b, o, none⟩ := World.cell?_of_block (h.2 b hb hn)
theorem KeepsBut.putObj {n₁ ob : Nat} {w : World} (hn : n₁ ≤ w.heap.size) (W : World) (l : Nat) (o o' : Obj) (hl : w.heap.size ≤ l) (_ : W.heap[l]? = some o) (_ : o.isCells = false) (_ : o.isWalk = false) : KeepsBut n₁ ob W (W.putObj l o') :=
 ⟨by simp, fun k hk _ => World.putObj_heap_other (by omega)⟩

theorem rev_range_succ (n j : Nat) (h : j < n) : ((List.range n).reverse.take (j + 1)) = (List.range n).reverse.take j ++ [n - 1 - j] := by
 rw [List.take_succ_eq_append_getElem (by simpa using h)]
 simp

set_option maxRecDepth 100000 in
set_option maxHeartbeats 2000000 in
theorem back1_in (F : Fence) (n : Nat) (h7 : F.fn 124) (hro : F.round = none) (hn : 1 ≤ n) (l Bs n₁ ob g len cap : Nat) (hs : List Value) (hlen : len ≤ hs.length) (hl30 : len ≤ 1000) (hg : g < n₁) (hgo : g ≠ ob) (hBn : Bs < n₁) (hBo : Bs ≠ ob) (J Jx : List (Fin len) → World → Prop)
  (hY : ∀ pre x W, J pre W → pre.length < len → YieldAt F (n - 1) Tryz.prog l #[.int .i64 ((x : Fin len).1 : Int), hs[x.1]?.getD undef] W fun e W' =>
   (e = .returned (.bool true) ∧ J (pre ++ [x]) W' ∧ KeepsBut n₁ ob W W') ∨ (e = .returned (.bool false) ∧ Jx (pre ++ [x]) W'))
  (W : World) (hBs : W.cell? ⟨Bs, 0, none⟩ = some (.slice (some ⟨g, 0, none⟩) len cap)) (hc : ∀ j (_ : j < len), W.cell? ⟨g, j, none⟩ = some (hs[j]?.getD undef)) (h0 : J [] W) :
  CallsIn F n Tryz.prog 124 #[.func (.yield l) #[] #[], .pointer (some ⟨Bs, 0, none⟩)] W fun e W' => (∃ v, e = .returned v) ∧
   ((∃ ys : List (Fin len), ys.map Fin.val = (List.range len).reverse ∧ J ys W') ∨ (∃ pre, True ∧ Jx pre W')) := by
 refine callsIn_of_wp Tryz.func124 rfl h7 ?_ hro
 simp only [Tryz.ntmps124, List.size_toArray, List.length_cons, List.length_nil, Nat.reduceAdd, Nat.reduceSub, Array.replicate_succ, Array.replicate_zero, List.push_toArray, List.append_toArray, List.nil_append, List.cons_append]
 gi_wp2
 gi_loopw [3] (fun i wr => ∃ (j : Nat) (pre : List (Fin len)), j ≤ len ∧ i = .int .i64 ((len : Int) - 1 - j) ∧ pre.map Fin.val = (List.range len).reverse.take j ∧ J pre wr ∧ KeepsBut n₁ ob W wr)
  (fun i _ => (intOf i + 1).toNat)
 case atStart => exact ⟨0, [], Nat.zero_le _, by simp, by simp, h0, KeepsBut.refl _ _ _⟩
 case round =>
  obtain ⟨j, pre, hj, rfl, hpm, hJs, hnx⟩ := hrel
  have hBs' := (hnx.cell (o := 0) hBn hBo).trans hBs
  by_cases hlt : j < len
  ·obtain ⟨k, hk⟩ : ∃ k : Nat, k = len - 1 - j := ⟨_, rfl⟩
   have hkl : k < len := by omega
   have hki : ((len : Int) - 1 - (j : Int)) = (k : Int) := by omega
   have hcx := (hnx.cell (o := k) hg hgo).trans (hc k hkl)
   have hpl : pre.length < len := by
    have := congrArg List.length hpm
    simp at this
    omega
   obtain ⟨fn, tmps, assign, body, hy, hR⟩ := hY pre ⟨k, hkl⟩ wr hJs hpl
   dsimp only at hy
   obtain ⟨hv, hhv⟩ : ∃ hv, hv = hs[k]?.getD undef := ⟨_, rfl⟩
   rw [← hhv] at hy hcx
   rw [hki]
   have HK := Lib.hid hk
   have HKI := Lib.hid hki
   clear hc hhv hk hki
   gi_wp2
   refine hR.mono ?_
   rintro e W3 (⟨rfl, hJ3, hk3⟩ | ⟨rfl, hJx3⟩)
   ·gi_wp2
    go_roundw
    case rel => exact ⟨j + 1, pre ++ [⟨k, hkl⟩], by omega, by have := HKI.out; congr 1; omega, by rw [rev_range_succ len j hlt, List.map_append, hpm, ← HK.out]; rfl, hJ3, hnx.trans hk3⟩
    case measure => simp [intOf]
   ·gi_wp2
    refine bodyPost_ret (results_none rfl _ _ _) rfl ?_
    exact ⟨⟨_, rfl⟩, .inr ⟨_, trivial, hJx3⟩⟩
  ·have hje : j = len := by omega
   subst hje
   have hgd : decide ((j : Int) - 1 - (j : Int) ≥ 0) = false := decide_eq_false (by omega)
   clear hc
   gi_wp2
   go_end0
   exact ⟨⟨_, rfl⟩, .inl ⟨pre, by rw [hpm, List.take_of_length_le (by simp)], hJs⟩⟩

theorem back_in (F : Fence) (n : Nat) (h5 : F.fn 95) (hro : F.round = none) (a : Option Addr) (len cap : Nat) (w : World) :
  CallsIn F n Tryz.prog 95 #[.slice a len cap] w fun e w' => e = .returned (.func (.func 124) #[] #[.pointer (some ⟨w.heap.size, 0, none⟩)]) ∧ w' = w.alloc (.cells #[.slice a len cap] 47) := by
 refine callsIn_of_wp Tryz.func95 rfl h5 ?_ hro
 simp only [Tryz.ntmps95, List.size_toArray, List.length_cons, List.length_nil, Nat.reduceAdd, Nat.reduceSub, Array.replicate_succ, Array.replicate_zero, List.push_toArray, List.append_toArray, List.nil_append, List.cons_append]
 gi_wp2
 go_ret
 exact ⟨rfl, rfl⟩

theorem back_stops (F : Fence) (n : Nat) (h7 : F.fn 124) (hro : F.round = none) (hn : 1 ≤ n) (Bs n₁ ob g len cap : Nat) (hs : List Value) (hlen : len ≤ hs.length) (hl30 : len ≤ 1000) (w : World) (hn₁ : n₁ ≤ w.heap.size) (hg : g < n₁) (hgo : g ≠ ob) (hBn : Bs < n₁) (hBo : Bs ≠ ob)
  (hBs : w.cell? ⟨Bs, 0, none⟩ = some (.slice (some ⟨g, 0, none⟩) len cap)) (hc : ∀ j (_ : j < len), w.cell? ⟨g, j, none⟩ = some (hs[j]?.getD undef)) :
  SeqStopsK F n Tryz.prog 124 #[.pointer (some ⟨Bs, 0, none⟩)] (fun x : Fin len => #[Value.int .i64 (x.1 : Int), hs[x.1]?.getD undef]) (KeepsBut n₁ ob) (fun ys => ys.map Fin.val = (List.range len).reverse) (fun _ => True) len w := fun l J Jx W hW _ _ hY h0 =>
 back1_in F n h7 hro hn l Bs n₁ ob g len cap hs hlen hl30 hg hgo hBn hBo J Jx hY W (keeps hW (Nat.lt_of_lt_of_le hBn hn₁) hBs) (fun j h => keeps hW (Nat.lt_of_lt_of_le hg hn₁) (hc j h)) h0

/-- What the loop adds up: from the back. -/
def accL (kind : Int) (D : List (List Nd)) (last : List Nd) (l : List Nat) : List Nd := l.foldl (fun out k => ⟨kind, ByteArray.empty⟩ :: (D.getD k [] ++ out)) last
theorem accL_snoc (kind : Int) (D : List (List Nd)) (last : List Nd) (l : List Nat) (k : Nat) : accL kind D last (l ++ [k]) = ⟨kind, ByteArray.empty⟩ :: (D.getD k [] ++ accL kind D last l) := by unfold accL; rw [List.foldl_append]; rfl
theorem accL_range (kind : Int) (D : List (List Nd)) : ∀ (n : Nat) (last : List Nd), n ≤ D.length → accL kind D last (List.range n).reverse = joinP kind (D.take n) ++ last
 | 0, last, _ => by simp [accL, joinP]
 | n + 1, last, h => by
  have ih := accL_range kind D n (⟨kind, ByteArray.empty⟩ :: (D.getD n [] ++ last)) (by omega)
  rw [List.range_succ, List.reverse_append]
  show accL kind D _ (List.range n).reverse = _
  unfold accL at *
  rw [ih, List.take_succ_eq_append_getElem (by omega), joinP_snoc, List.append_assoc]
  have : D.getD n [] = D[n] := by rw [List.getD_eq_getElem?_getD, List.getElem?_eq_getElem (by omega)]; rfl
  rw [this]
  rfl
theorem accL_all {kind : Int} {D : List (List Nd)} {last : List Nd} (n : Nat) (h : D.length = n + 1) (hl : D[n]? = some last) : accL kind D last (List.range n).reverse = joinD kind D := by
 rw [accL_range kind D n last (by omega), ← joinD_snoc]
 congr 1
 have hn : n < D.length := by omega
 rw [List.getElem?_eq_getElem hn] at hl
 rw [← Option.some.inj hl, ← List.take_succ_eq_append_getElem hn, List.take_of_length_le (by omega)]

end Go.Proofs.YtjoacldbgnphkaaGreatDoor

namespace Go.Proofs.YtjoacldbgnphkaaGreatDoor
open Go Go.RowKit Go.Sort


instance : Inhabited Edge := ⟨⟨0, 0, 0⟩⟩
end Go.Proofs.YtjoacldbgnphkaaGreatDoor

namespace Go.Proofs.YtjoacldbgnphkaaGreatDoor
open Go Go.RowKit


theorem eqNd (x y : Nd) (w : World) : (binOp .eql 55 (.agg #[.int .i64 x.kind, .int .i64 0, .string x.label, .bool false]) (.agg #[.int .i64 y.kind, .int .i64 0, .string y.label, .bool false])).run Tryz.prog w = .ok (.bool (decide (x = y))) w := by
 have u3 := Tryz.underlying2
 have hS : Tryz.prog.underlying 55 = some (.struct (Tryz.prog.fieldsOf 55)) := by kernel_rfl
 have hp : Tryz.prog.stoodInHeld 55 = false := by kernel_rfl
 rw [run_eql_struct, show (10000 : Nat) = 9999 + 1 from rfl, run_equalIn_agg w 9999 55 _ _ hS hp]
 simp only [Program.fieldsOf, Tryz.underlying55]
 go_simp
 cases x with | mk xk xl => cases y with | mk yk yl =>
 by_cases h1 : xk = yk
 ·by_cases h2 : xl = yl
  ·simp [h1, h2]
  ·have h3 : ¬ xl.toList = yl.toList := fun e => h2 (by
    rw [Lib.toList_data, Lib.toList_data] at e
    exact ByteArray.ext (Array.toList_inj.1 e))
   simp [h1, h2, h3]
 ·by_cases h2 : xl = yl <;> simp [h1, h2]
theorem neNd (x y : Nd) (w : World) : (binOp .neq 55 (.agg #[.int .i64 x.kind, .int .i64 0, .string x.label, .bool false]) (.agg #[.int .i64 y.kind, .int .i64 0, .string y.label, .bool false])).run Tryz.prog w = .ok (.bool (!decide (x = y))) w := by
 have h := eqNd x y w
 rw [run_eql_struct] at h
 rw [run_neq_struct]
 cases hr : (Op.equalIn 10000 55 (.agg #[.int .i64 x.kind, .int .i64 0, .string x.label, .bool false]) (.agg #[.int .i64 y.kind, .int .i64 0, .string y.label, .bool false])).run Tryz.prog w with
 | ok b w' =>
  rw [hr] at h
  simp only [Result.andThen, Result.ok.injEq, Value.bool.injEq] at h ⊢
  exact ⟨by rw [h.1], h.2⟩
 | halt _ _ => rw [hr] at h; cases h
theorem guardNd (op : BinOp) (a b : Operand) (xs ys : Array Value) (w : World) : (eqGuard op 55 a b (.agg xs) (.agg ys)).run Tryz.prog w = .ok () w := run_eqGuard_agg w op 55 a b xs ys (by kernel_rfl)

set_option maxRecDepth 100000 in
set_option maxHeartbeats 4000000 in
theorem same14_any (lo lo2 : Nat) (va vb : Value) (xs ys : List Nd) (w : World) (hx : xs.length ≤ 1000) (hva : SliceK 4 encN lo w va xs) (hvb : SliceK 4 encN lo2 w vb ys) :
  Calls Tryz.prog 60 #[va, vb] w fun e w' => e = .returned (.bool (decide (xs = ys))) ∧ Below w.heap.size w w' := by
 obtain ⟨a, ca, rfl, hna, hca, ha⟩ := hva
 obtain ⟨b, cb, rfl, hnb, hcb, hb⟩ := hvb
 have HA := Lib.hid ha
 have HB := Lib.hid hb
 obtain ⟨N, hN⟩ : ∃ N, N = xs.length := ⟨_, rfl⟩
 obtain ⟨M, hM⟩ : ∃ M, M = ys.length := ⟨_, rfl⟩
 rw [← hN] at hna hx ⊢
 rw [← hM] at hnb ⊢
 have HN := Lib.hid hN
 have HM := Lib.hid hM
 clear ha hb hN hM
 by_cases hl : N = M
 ·subst hl
  go_enter Tryz.func60, Tryz.ntmps60
  go_wp2
  go_loopw [5] (fun i wr => ∃ k : Nat, k ≤ N ∧ i = .int .i64 k ∧ Below w.heap.size w wr ∧ xs.take k = ys.take k) (fun i _ => N - (intOf i).toNat)
  case atStart => exact ⟨0, Nat.zero_le _, rfl, Below.refl _ _, by simp⟩
  case round =>
   obtain ⟨k, hk, rfl, hbl, hf⟩ := hrel
   have HBL := Lib.hid hbl
   have HF := Lib.hid hf
   have hsz := hbl.size
   clear hbl hf
   by_cases hlt : k < N
   ·have hk1 : k < xs.length := by rw [← HN.out]; exact hlt
    have hk2 : k < ys.length := by rw [← HM.out]; exact hlt
    obtain ⟨b1, o1, rfl, -, h1, c0, c1, c2, c3⟩ := (HA.out.below HBL.out).node hk1
    obtain ⟨b2, o2, rfl, -, h2, d0, d1, d2, d3⟩ := (HB.out.below HBL.out).node hk2
    simp only [encN, List.getElem?_cons_zero, List.getElem?_cons_succ] at c0 c1 c2 c3 d0 d1 d2 d3
    obtain ⟨x, hx2⟩ : ∃ x, x = xs[k] := ⟨_, rfl⟩
    obtain ⟨y, hy2⟩ : ∃ y, y = ys[k] := ⟨_, rfl⟩
    rw [← hx2] at c0 c2
    rw [← hy2] at d0 d2
    have HT1 : Hid (xs.take (k + 1) = xs.take k ++ [x]) := by unfold Hid; rw [List.take_succ_eq_append_getElem hk1, hx2]
    have HT2 : Hid (ys.take (k + 1) = ys.take k ++ [y]) := by unfold Hid; rw [List.take_succ_eq_append_getElem hk2, hy2]
    have HD : Hid (x ≠ y → xs ≠ ys) := fun h e => h (by
     rw [hx2, hy2]
     subst e
     rfl)
    replace c0 := later_cell h1 c0
    replace c1 := later_cell h1 c1
    replace c2 := later_cell h1 c2
    replace c3 := later_cell h1 c3
    replace d0 := later_cell h2 d0
    replace d1 := later_cell h2 d1
    replace d2 := later_cell h2 d2
    replace d3 := later_cell h2 d3
    have hE := fun w' => neNd x y w'
    have hG := fun (op : BinOp) (a b : Operand) (w : World) => guardNd op a b #[.int .i64 x.kind, .int .i64 0, .string x.label, .bool false] #[.int .i64 y.kind, .int .i64 0, .string y.label, .bool false] w
    clear hx2 hy2 hk1 hk2
    by_cases hxy : x = y
    ·have hd : (!decide (x = y)) = false := by rw [decide_eq_true hxy]; rfl
     rw [hd] at hE
     have HF2 : Hid (xs.take (k + 1) = ys.take (k + 1)) := by unfold Hid; rw [HT1.out, HT2.out, HF.out, hxy]
     clear hxy hd
     go_wp2
     refine wp_region_later (by kernel_rfl) (by kernel_rfl) ?_
     repeat (go_big_quiet_step ((fail)))
     refine wpQuiet_nil ?_
     intro _ hw9
     obtain ⟨nl, hw8⟩ := hw9
     subst hw8
     go_wp2
     go_roundw
     case rel => exact ⟨k + 1, by omega, by go_num, HBL.out.trans (nl.h.mono hsz), HF2.out⟩
     case measure => simp [intOf]; omega
    ·have hd : (!decide (x = y)) = true := by rw [decide_eq_false hxy]; rfl
     rw [hd] at hE
     have HR : Hid (decide (xs = ys) = false) := decide_eq_false (HD.out hxy)
     clear hxy hd
     go_wp2
     refine wp_region_later (by kernel_rfl) (by kernel_rfl) ?_
     repeat (go_big_quiet_step ((fail)))
     refine wpQuiet_nil ?_
     intro _ hw9
     obtain ⟨nl, hw8⟩ := hw9
     subst hw8
     go_wp2
     go_ret
     exact ⟨by rw [HR.out]; rfl, HBL.out.trans (nl.h.mono hsz)⟩
   ·have HR : Hid (decide (xs = ys) = true) := decide_eq_true (by
     have h := HF.out
     rw [List.take_of_length_le (by rw [← HN.out]; omega), List.take_of_length_le (by rw [← HM.out]; omega)] at h
     exact h)
    go_wp2
    go_ret
    exact ⟨by rw [HR.out]; rfl, HBL.out⟩
 ·have HR : Hid (decide (xs = ys) = false) := decide_eq_false (fun e => hl (by rw [HN.out, HM.out, e]))
  have hne : ((N : Int) != (M : Int)) = true := by
   rw [bne_iff_ne]
   omega
  go_enter Tryz.func60, Tryz.ntmps60
  go_wp2
  go_ret
  exact ⟨by rw [HR.out]; rfl, Below.refl _ _⟩

end Go.Proofs.YtjoacldbgnphkaaGreatDoor

namespace Go.Proofs.YtjoacldbgnphkaaGreatDoor
open Go Go.RowKit


set_option maxRecDepth 100000 in
set_option maxHeartbeats 4000000 in
theorem EqualN_any (lo lo2 : Nat) (va vb : Value) (xs ys : List Nd) (w : World) (hx : xs.length ≤ 1000) (hva : SliceK 4 encN lo w va xs) (hvb : SliceK 4 encN lo2 w vb ys) :
  Calls Tryz.prog 93 #[va, vb] w fun e w' => e = .returned (.bool (decide (xs = ys))) ∧ Below w.heap.size w w' := by
 obtain ⟨a, ca, rfl, hna, hca, ha⟩ := hva
 obtain ⟨b, cb, rfl, hnb, hcb, hb⟩ := hvb
 have HA := Lib.hid ha
 have HB := Lib.hid hb
 obtain ⟨N, hN⟩ : ∃ N, N = xs.length := ⟨_, rfl⟩
 obtain ⟨M, hM⟩ : ∃ M, M = ys.length := ⟨_, rfl⟩
 rw [← hN] at hna hx ⊢
 rw [← hM] at hnb ⊢
 have HN := Lib.hid hN
 have HM := Lib.hid hM
 clear ha hb hN hM
 by_cases hl : N = M
 ·subst hl
  go_enter Tryz.func93, Tryz.ntmps93
  go_wp2
  go_loopw [13] (fun i wr => ∃ k : Nat, k ≤ N ∧ i = .int .i64 k ∧ Below w.heap.size w wr ∧ xs.take k = ys.take k) (fun i _ => N - (intOf i).toNat)
  case atStart => exact ⟨0, Nat.zero_le _, rfl, Below.refl _ _, by simp⟩
  case round =>
   obtain ⟨k, hk, rfl, hbl, hf⟩ := hrel
   have HBL := Lib.hid hbl
   have HF := Lib.hid hf
   have hsz := hbl.size
   clear hbl hf
   by_cases hlt : k < N
   ·have hk1 : k < xs.length := by rw [← HN.out]; exact hlt
    have hk2 : k < ys.length := by rw [← HM.out]; exact hlt
    obtain ⟨b1, o1, rfl, -, h1, c0, c1, c2, c3⟩ := (HA.out.below HBL.out).node hk1
    obtain ⟨b2, o2, rfl, -, h2, d0, d1, d2, d3⟩ := (HB.out.below HBL.out).node hk2
    simp only [encN, List.getElem?_cons_zero, List.getElem?_cons_succ] at c0 c1 c2 c3 d0 d1 d2 d3
    obtain ⟨x, hx2⟩ : ∃ x, x = xs[k] := ⟨_, rfl⟩
    obtain ⟨y, hy2⟩ : ∃ y, y = ys[k] := ⟨_, rfl⟩
    rw [← hx2] at c0 c2
    rw [← hy2] at d0 d2
    have HT1 : Hid (xs.take (k + 1) = xs.take k ++ [x]) := by unfold Hid; rw [List.take_succ_eq_append_getElem hk1, hx2]
    have HT2 : Hid (ys.take (k + 1) = ys.take k ++ [y]) := by unfold Hid; rw [List.take_succ_eq_append_getElem hk2, hy2]
    have HD : Hid (x ≠ y → xs ≠ ys) := fun h e => h (by
     rw [hx2, hy2]
     subst e
     rfl)
    replace c0 := later_cell h1 c0
    replace c1 := later_cell h1 c1
    replace c2 := later_cell h1 c2
    replace c3 := later_cell h1 c3
    replace d0 := later_cell h2 d0
    replace d1 := later_cell h2 d1
    replace d2 := later_cell h2 d2
    replace d3 := later_cell h2 d3
    have hE := fun w' => neNd x y w'
    have hG := fun (op : BinOp) (a b : Operand) (w : World) => guardNd op a b #[.int .i64 x.kind, .int .i64 0, .string x.label, .bool false] #[.int .i64 y.kind, .int .i64 0, .string y.label, .bool false] w
    clear hx2 hy2 hk1 hk2
    by_cases hxy : x = y
    ·have hd : (!decide (x = y)) = false := by rw [decide_eq_true hxy]; rfl
     rw [hd] at hE
     have HF2 : Hid (xs.take (k + 1) = ys.take (k + 1)) := by unfold Hid; rw [HT1.out, HT2.out, HF.out, hxy]
     clear hxy hd
     go_wp2
     refine wp_region_later (by kernel_rfl) (by kernel_rfl) ?_
     repeat (go_big_quiet_step ((fail)))
     refine wpQuiet_nil ?_
     intro _ hw9
     obtain ⟨nl, hw8⟩ := hw9
     subst hw8
     go_wp2
     go_roundw
     case rel => exact ⟨k + 1, by omega, by go_num, HBL.out.trans (nl.h.mono hsz), HF2.out⟩
     case measure => simp [intOf]; omega
    ·have hd : (!decide (x = y)) = true := by rw [decide_eq_false hxy]; rfl
     rw [hd] at hE
     have HR : Hid (decide (xs = ys) = false) := decide_eq_false (HD.out hxy)
     clear hxy hd
     go_wp2
     refine wp_region_later (by kernel_rfl) (by kernel_rfl) ?_
     repeat (go_big_quiet_step ((fail)))
     refine wpQuiet_nil ?_
     intro _ hw9
     obtain ⟨nl, hw8⟩ := hw9
     subst hw8
     go_wp2
     go_ret
     exact ⟨by rw [HR.out]; rfl, HBL.out.trans (nl.h.mono hsz)⟩
   ·have HR : Hid (decide (xs = ys) = true) := decide_eq_true (by
     have h := HF.out
     rw [List.take_of_length_le (by rw [← HN.out]; omega), List.take_of_length_le (by rw [← HM.out]; omega)] at h
     exact h)
    go_wp2
    go_ret
    exact ⟨by rw [HR.out]; rfl, HBL.out⟩
 ·have HR : Hid (decide (xs = ys) = false) := decide_eq_false (fun e => hl (by rw [HN.out, HM.out, e]))
  have hne : ((N : Int) != (M : Int)) = true := by
   rw [bne_iff_ne]
   omega
  go_enter Tryz.func93, Tryz.ntmps93
  go_wp2
  go_ret
  exact ⟨by rw [HR.out]; rfl, Below.refl _ _⟩

set_option maxRecDepth 100000 in
theorem jn1_any (lo lo2 fb : Nat) (va vb : Value) (xs ys : List Nd) (w : World) (hx : xs.length ≤ 1000) (hva : SliceK 4 encN lo w va xs) (hvb : SliceK 4 encN lo2 w vb ys) (hb : Blk w fb [va] 27) :
  Calls Tryz.prog 92 #[vb, .pointer (some ⟨fb, 0, none⟩)] w fun e w' => e = .returned (.bool (decide (xs = ys))) ∧ Below w.heap.size w w' := by
 have HE := Lib.hid (EqualN_any lo lo2 va vb xs ys w hx hva hvb)
 have x0 := hb.cell 0 rfl
 obtain ⟨b, hbb⟩ : ∃ b, b = decide (xs = ys) := ⟨_, rfl⟩
 rw [← hbb] at HE ⊢
 clear hva hvb hb hbb
 go_enter Tryz.func92, Tryz.ntmps92
 go_wp2_with fail
 refine Calls.mono HE.out ?_
 rintro e w1 ⟨rfl, hb1⟩
 have HB1 := Lib.hid hb1
 clear hb1 x0 HE
 go_wp2
 go_ret
 exact ⟨rfl, HB1.out⟩

end Go.Proofs.YtjoacldbgnphkaaGreatDoor

namespace Go.Proofs.YtjoacldbgnphkaaGreatDoor
open Go Go.RowKit

/-- A function of one element that answers P at the element's place, and turns nothing that was there. -/
def AskN (fid : Nat) (caps : Array Value) (P : Nat → Bool) (vs : List Value) (B : Nat) (w : World) : Prop :=
 ∀ w', Below B w w' → ∀ i (h : i < vs.length), Calls Tryz.prog fid (#[vs[i]] ++ caps) w' fun e w'' => e = .returned (.bool (P i)) ∧ Below w'.heap.size w' w''

set_option maxRecDepth 100000 in
set_option maxHeartbeats 1000000 in
theorem IndexFuncN (lo : Nat) (v : Value) (vs : List Value) (fid : Nat) (caps : Array Value) (P : Nat → Bool) (w : World) (hv : SliceK 1 encV lo w v vs) (eg : ∀ args w, (callFunc fid args).run Tryz.prog w = .ok (.enter fid args) w) (hP : AskN fid caps P vs w.heap.size w) :
  Calls Tryz.prog 123 #[v, .func (.func fid) #[] caps] w fun e w' => ∃ r : Int, e = .returned (.int .i64 r) ∧ (0 ≤ r ↔ ∃ k, k < vs.length ∧ P k = true) ∧ Below w.heap.size w w' := by
 obtain ⟨a, c, rfl, hcn, hcc, hrow⟩ := hv
 have HR := Lib.hid hrow
 have HP := Lib.hid hP
 clear hP hrow
 go_enter Tryz.func123, Tryz.ntmps123
 go_wp2_with fail
 go_loopw [8] (fun i wr => ∃ k : Nat, k ≤ vs.length ∧ i = .int .i64 k ∧ Below w.heap.size w wr ∧ ∀ j, j < k → P j = false) (fun i _ => vs.length - (intOf i).toNat)
 case atStart => exact ⟨0, Nat.zero_le _, rfl, Below.refl _ _, fun _ h => by omega⟩
 case round =>
  obtain ⟨k, hk, rfl, hbl, ha⟩ := hrel
  have HA := Lib.hid ha
  have HBL := Lib.hid hbl
  clear ha
  by_cases hlt : k < vs.length
  ·obtain ⟨b1, o1, rfl, -, hbs, c1⟩ := (HR.out.below hbl).one hlt
   simp only [encV, List.getElem?_cons_zero] at c1
   clear hbl
   have HC := Lib.hid (HP.out wr HBL.out k hlt)
   obtain ⟨x, hx⟩ : ∃ x, x = vs[k] := ⟨_, rfl⟩
   rw [← hx] at c1 HC
   obtain ⟨b, hb⟩ : ∃ b, b = P k := ⟨_, rfl⟩
   rw [← hb] at HC
   have HB := Lib.hid hb
   clear hb hx
   go_wp2_with fail
   refine Calls.mono HC.out ?_
   rintro e w1 ⟨rfl, hb1⟩
   have HB1 := Lib.hid (HBL.out.trans (hb1.mono HBL.out.size))
   clear hb1 c1
   cases b
   ·go_wp2_with fail
    go_roundw
    case rel => exact ⟨k + 1, by omega, by go_num, HB1.out, fun j hj => by
     by_cases e : j = k
     ·subst e; exact HB.out.symm
     ·exact HA.out j (by omega)⟩
    case measure => simp [intOf]; omega
   ·have HE : Hid (∃ k, k < vs.length ∧ P k = true) := ⟨k, hlt, HB.out.symm⟩
    go_wp2_with fail
    go_ret
    exact ⟨_, rfl, ⟨fun _ => HE.out, fun _ => by omega⟩, HB1.out⟩
  ·clear hbl
   have HN : Hid (¬ ∃ k, k < vs.length ∧ P k = true) := by
    rintro ⟨j, hj, h⟩
    rw [HA.out j (by omega)] at h
    cases h
   go_wp2_with fail
   go_ret
   exact ⟨_, rfl, ⟨fun h => by omega, fun h => absurd h HN.out⟩, HBL.out⟩

theorem ContainsFuncN (lo : Nat) (v : Value) (vs : List Value) (fid : Nat) (caps : Array Value) (P : Nat → Bool) (w : World) (hv : SliceK 1 encV lo w v vs) (eg : ∀ args w, (callFunc fid args).run Tryz.prog w = .ok (.enter fid args) w) (hP : AskN fid caps P vs w.heap.size w) :
  Calls Tryz.prog 91 #[v, .func (.func fid) #[] caps] w fun e w' => ∃ b : Bool, e = .returned (.bool b) ∧ (b = true ↔ ∃ k, k < vs.length ∧ P k = true) ∧ Below w.heap.size w w' := by
 have HC := Lib.hid (IndexFuncN lo v vs fid caps P w hv eg hP)
 clear hP
 go_enter Tryz.func91, Tryz.ntmps91
 go_wp2_with fail
 refine Calls.mono HC.out ?_
 rintro e w' ⟨r, rfl, hr, hb⟩
 have HB := Lib.hid hb
 have HR := Lib.hid hr
 clear hb hr
 go_wp2_with fail
 go_ret
 exact ⟨_, rfl, by rw [decide_eq_true_eq]; exact HR.out, HB.out⟩

end Go.Proofs.YtjoacldbgnphkaaGreatDoor

namespace Go.Proofs.YtjoacldbgnphkaaGreatDoor
open Go Go.RowKit


theorem info_nodeG : (Tryz.prog.info? 55).map (fun i => (i.zero, i.size, i.bytes)) = some (some (.agg #[.int .i64 0, .int .i64 0, .string ⟨#[]⟩, .bool false]), 4, 40) := by kernel_rfl
theorem GrowN_none (n : Nat) (w : World) (h0 : 0 < n) (h1 : n ≤ 200000) :
  Calls Tryz.prog 125 #[.slice none 0 0, .int .i64 n] w fun e w' => ∃ v, e = .returned v ∧ Below w.heap.size w w' ∧ w'.ownsRow w.heap.size 55 4 v 0 [] := by
 obtain ⟨i0, hi, hz0, hz1, hz2⟩ := info_parts info_nodeG
 refine (Tryz.slices_Grow_node i0 (.agg #[.int .i64 0, .int .i64 0, .string ⟨#[]⟩, .bool false]) hi hz0 (by omega) none 0 0 n [] w (Nat.le_refl _) (by omega) (by rw [hz2]; omega) (by omega) (by simp) (fun _ => rfl) (fun a h => by cases h)).mono ?_
 rintro e w' ⟨rfl, rfl⟩
 refine ⟨_, rfl, ?_, rfl, .inr ⟨w.heap.size, _, _, rfl, Nat.le_refl _, heap_alloc_new w.drew _, Nat.zero_le _, grownCap_le_maxLen w (0 + n) 0 _ (by simp [maxLen]; omega), ?_, by simp⟩⟩
 ·exact (Below.refl _ w).drew.alloc (Nat.le_refl _) _
 ·have hge := grownCap_ge w (0 + n) 0 55
  simp only [Array.size_append, List.size_toArray, List.length_nil, size_zeroCells, show (Value.agg #[Value.int .i64 0, Value.int .i64 0, Value.string ⟨#[]⟩, Value.bool false]).cells.size = 4 from rfl]
  omega

end Go.Proofs.YtjoacldbgnphkaaGreatDoor

namespace Go.Proofs.YtjoacldbgnphkaaGreatDoor
open Go Go.RowKit


def cat3 (f0 f1 f2 : List Nd) (k : Nat) : List Nd := if k = 0 then [] else if k = 1 then f0 else if k = 2 then f0 ++ f1 else f0 ++ f1 ++ f2

set_option maxRecDepth 100000 in
set_option maxHeartbeats 4000000 in
theorem ConcatN3 (l0 l1 l2 : Value) (f0 f1 f2 : List Nd) (w : World) (h0 : SliceK 4 encN 0 w l0 f0) (h1 : SliceK 4 encN 0 w l1 f1) (h2 : SliceK 4 encN 0 w l2 f2) (p0 : f0 ≠ []) (p1 : f1 ≠ []) (p2 : f2 ≠ []) (hn : f0.length + f1.length + f2.length ≤ 200000)
  (b : Nat) (hb : Blk w b [l0, l1, l2] 27) :
  Calls Tryz.prog 96 #[.slice (some ⟨b, 0, none⟩) 3 3] w fun e w' => ∃ v', e = .returned v' ∧ Below w.heap.size w w' ∧ FormO w.heap.size w' v' (f0 ++ f1 ++ f2) := by
 obtain ⟨b0, o0, c0, rfl, -, hb0, hc0⟩ := form_cells h0 p0
 obtain ⟨b1, o1, c1, rfl, -, hb1, hc1⟩ := form_cells h1 p1
 obtain ⟨b2, o2, c2, rfl, -, hb2, hc2⟩ := form_cells h2 p2
 have q0 := List.length_pos_iff.2 p0
 have q1 := List.length_pos_iff.2 p1
 have q2 := List.length_pos_iff.2 p2
 obtain ⟨n0, hn0⟩ : ∃ n, n = f0.length := ⟨_, rfl⟩
 obtain ⟨n1, hn1⟩ : ∃ n, n = f1.length := ⟨_, rfl⟩
 obtain ⟨n2, hn2⟩ : ∃ n, n = f2.length := ⟨_, rfl⟩
 rw [← hn0, ← hn1, ← hn2] at hn hb
 rw [← hn0] at q0
 rw [← hn1] at q1
 rw [← hn2] at q2
 have HG := Lib.hid (fun w' => GrowN_none (n0 + n1 + n2) w' (by omega) (by omega))
 have HC0 := Lib.hid hc0
 have HC1 := Lib.hid hc1
 have HC2 := Lib.hid hc2
 have HB := Lib.hid hb
 have HN0 := Lib.hid hn0
 have HN1 := Lib.hid hn1
 have HN2 := Lib.hid hn2
 have k0 := hb.cell 0 rfl
 have k1 := hb.cell 1 rfl
 have k2 := hb.cell 2 rfl
 have hbl := hb.lt
 obtain ⟨i0, hi, hz0, hz1, hz2⟩ := info_parts info_nodeG
 clear hc0 hc1 hc2 hb hn0 hn1 hn2 h0 h1 h2 p0 p1 p2
 go_enter Tryz.func96, Tryz.ntmps96
 go_wp2_with fail
 go_loopw [3, 11] (fun v3 v11 wr => wr = w ∧ ((v11 = .int .i64 0 ∧ v3 = .int .i64 0) ∨ (v11 = .int .i64 1 ∧ v3 = .int .i64 n0) ∨ (v11 = .int .i64 2 ∧ v3 = .int .i64 ((n0 + n1 : Nat) : Int)) ∨ (v11 = .int .i64 3 ∧ v3 = .int .i64 ((n0 + n1 + n2 : Nat) : Int)))) (fun _ v11 _ => 3 - (intOf v11).toNat)
 case atStart => exact ⟨rfl, .inl ⟨rfl, rfl⟩⟩
 case round =>
  obtain ⟨hww, ⟨rfl, rfl⟩ | ⟨rfl, rfl⟩ | ⟨rfl, rfl⟩ | ⟨rfl, rfl⟩⟩ := hrel
  all_goals (have hww2 := hww.symm; subst hww2; clear hww)
  ·go_wp2_with fail
   go_roundw
   case rel => exact ⟨by first | rfl | trivial, .inr (.inl ⟨by go_num, by go_num⟩)⟩
   case measure => simp [intOf]
  ·go_wp2_with fail
   go_roundw
   case rel => exact ⟨by first | rfl | trivial, .inr (.inr (.inl ⟨by go_num, by go_num⟩))⟩
   case measure => simp [intOf]
  ·go_wp2_with fail
   go_roundw
   case rel => exact ⟨by first | rfl | trivial, .inr (.inr (.inr ⟨by go_num, by go_num⟩))⟩
   case measure => simp [intOf]
  ·clear k0 k1 k2
   go_wp2_with fail
   refine Calls.mono (HG.out _) ?_
   rintro e w1 ⟨v, rfl, hb1', ho1⟩
   have HB1 := Lib.hid hb1'
   have HO1 := Lib.hid ho1
   have hs1 := hb1'.size
   clear hb1' ho1
   go_wp2_with fail
   go_loopw [6, 27] (fun v6 v27 wr => ∃ k : Nat, v27 = .int .i64 k ∧ k ≤ 3 ∧ Below w.heap.size w wr ∧ FormO w.heap.size wr v6 (cat3 f0 f1 f2 k)) (fun _ v27 _ => 3 - (intOf v27).toNat)
   case atStart => exact ⟨0, rfl, by omega, HB1.out, HO1.out⟩
   case round =>
    obtain ⟨k, rfl, hk, hbr, hor⟩ := hrel
    have HBR := Lib.hid hbr
    have HOR := Lib.hid hor
    have hsr := hbr.size
    rcases (show k = 0 ∨ k = 1 ∨ k = 2 ∨ k = 3 by omega) with rfl | rfl | rfl | rfl
    ·have k0 := (HB.out.below hbr).cell 0 rfl
     have hsrc := Lib.hid (news_below hb0 HC0.out hbr)
     have hlr : (cat3 f0 f1 f2 0).length = 0 := rfl
     clear hbr hor
     go_wp2_with (at_builtin; refine wpList_append_own_at _ rfl _ _ 27 rfl w.heap.size 55 i0 (.agg #[.int .i64 0, .int .i64 0, .string ⟨#[]⟩, .bool false]) 4 40 Tryz.underlying27 hi hz0 hz1 hz2 rfl (by decide) _ _ _ rfl HOR.out ⟨b0, o0, none⟩ n0 c0 (f0.flatMap encN) rfl ?c1 hsrc.out ?c2 ?c3 ?c4 ?c5 ?_)
     case c1 => rw [flatN_len, HN0.out]
     case c2 => exact flatN_one _
     case c3 => rw [hlr]; simp [maxLen]; omega
     case c4 => rw [hlr]; omega
     case c5 => omega
     intro v' w' ho' hg' _ _
     have HB' : Hid (Below w.heap.size w w') := HBR.out.grown hg' hsr (fun b e => (World.ownsRow.lt HOR.out b e).1)
     have HO' : Hid (FormO w.heap.size w' v' (cat3 f0 f1 f2 1)) := by
      have h := ho'
      rw [HN0.out] at h
      unfold Hid FormO
      have e : cat3 f0 f1 f2 1 = f0 := rfl
      rw [e]
      simpa [cat3] using h
     clear ho' hg' hlr
     go_wp2
     go_roundw
     case rel => exact ⟨1, by go_num, by omega, HB'.out, HO'.out⟩
     case measure => simp [intOf]
    ·have k1 := (HB.out.below hbr).cell 1 rfl
     have hsrc := Lib.hid (news_below hb1 HC1.out hbr)
     have hlr : (cat3 f0 f1 f2 1).length = n0 := HN0.out.symm
     clear hbr hor
     go_wp2_with (at_builtin; refine wpList_append_own_at _ rfl _ _ 27 rfl w.heap.size 55 i0 (.agg #[.int .i64 0, .int .i64 0, .string ⟨#[]⟩, .bool false]) 4 40 Tryz.underlying27 hi hz0 hz1 hz2 rfl (by decide) _ _ _ rfl HOR.out ⟨b1, o1, none⟩ n1 c1 (f1.flatMap encN) rfl ?c1 hsrc.out ?c2 ?c3 ?c4 ?c5 ?_)
     case c1 => rw [flatN_len, HN1.out]
     case c2 => exact flatN_one _
     case c3 => rw [hlr]; simp [maxLen]; omega
     case c4 => rw [hlr]; omega
     case c5 => omega
     intro v' w' ho' hg' _ _
     have HB' : Hid (Below w.heap.size w w') := HBR.out.grown hg' hsr (fun b e => (World.ownsRow.lt HOR.out b e).1)
     have HO' : Hid (FormO w.heap.size w' v' (cat3 f0 f1 f2 2)) := by
      have h := ho'
      rw [HN1.out] at h
      unfold Hid FormO
      have e : cat3 f0 f1 f2 2 = f0 ++ f1 := rfl
      have e1 : cat3 f0 f1 f2 1 = f0 := rfl
      rw [e, List.length_append, List.flatMap_append]
      rw [e1, HN0.out] at h
      exact h
     clear ho' hg' hlr
     go_wp2
     go_roundw
     case rel => exact ⟨2, by go_num, by omega, HB'.out, HO'.out⟩
     case measure => simp [intOf]
    ·have k2 := (HB.out.below hbr).cell 2 rfl
     have hsrc := Lib.hid (news_below hb2 HC2.out hbr)
     have hlr : (cat3 f0 f1 f2 2).length = n0 + n1 := by have := HN0.out; have := HN1.out; show (f0 ++ f1).length = _; rw [List.length_append]; omega
     clear hbr hor
     go_wp2_with (at_builtin; refine wpList_append_own_at _ rfl _ _ 27 rfl w.heap.size 55 i0 (.agg #[.int .i64 0, .int .i64 0, .string ⟨#[]⟩, .bool false]) 4 40 Tryz.underlying27 hi hz0 hz1 hz2 rfl (by decide) _ _ _ rfl HOR.out ⟨b2, o2, none⟩ n2 c2 (f2.flatMap encN) rfl ?c1 hsrc.out ?c2 ?c3 ?c4 ?c5 ?_)
     case c1 => rw [flatN_len, HN2.out]
     case c2 => exact flatN_one _
     case c3 => rw [hlr]; simp [maxLen]; omega
     case c4 => rw [hlr]; omega
     case c5 => omega
     intro v' w' ho' hg' _ _
     have HB' : Hid (Below w.heap.size w w') := HBR.out.grown hg' hsr (fun b e => (World.ownsRow.lt HOR.out b e).1)
     have HO' : Hid (FormO w.heap.size w' v' (cat3 f0 f1 f2 3)) := by
      have h := ho'
      rw [HN2.out] at h
      unfold Hid FormO
      have e : cat3 f0 f1 f2 3 = f0 ++ f1 ++ f2 := rfl
      have e1 : cat3 f0 f1 f2 2 = f0 ++ f1 := rfl
      rw [e, List.length_append, List.flatMap_append, List.length_append]
      rw [e1, HN0.out, HN1.out] at h
      exact h
     clear ho' hg' hlr
     go_wp2
     go_roundw
     case rel => exact ⟨3, by go_num, by omega, HB'.out, HO'.out⟩
     case measure => simp [intOf]
    ·clear hbr hor
     go_wp2
     go_ret
     exact ⟨_, rfl, HBR.out, HOR.out⟩

end Go.Proofs.YtjoacldbgnphkaaGreatDoor
