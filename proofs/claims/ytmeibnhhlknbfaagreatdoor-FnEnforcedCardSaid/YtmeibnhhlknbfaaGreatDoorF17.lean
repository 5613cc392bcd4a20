/-
  How the search over pairs lies in the reference's memory.
  The verdicts of the first rows. Plain.
  The reference's l11Out: the edges from a state.
  What the reference's functions on systems compute: the edges from a state, the step by a label.
  What the reference's step by a label computes.
  What the reference computes for a model and a property: the step by a label, the code of the arguments, the pairs that can stay.
  The reference's l30Leave: the pairs that can leave.
-/
import Derived.Test.YtmeibnhhlknbfaaGreatDoorF16
import Derived.Test.YtmeibnhhlknbfaaGreatDoorF3
import Derived.Test.YtmeibnhhlknbfaaGreatDoorF4
import Derived.Test.YtmeibnhhlknbfaaGreatDoorF6
import Derived.StillTailTactics
namespace Go.Proofs.YtmeibnhhlknbfaaGreatDoor
open Go Go.RowKit


/-- The four lists and the box that holds the verdicts' slice. -/
structure WMem (B ob : Nat) (w : World) (vr va ve vv : Value) (vs : List Value) (rs : List (List Int)) (ys : List Int) (es : List Edge) (xs : List Int) : Prop where
 rows : OwnIntss 28 2 B w vr vs rs
 atq : w.ownsRow B 2 1 va ys.length (ys.map (Value.int .i64))
 vd : w.ownsRow B 2 1 vv xs.length (xs.map (Value.int .i64))
 ed : w.ownsRow B 59 3 ve es.length (es.flatMap encE)
 far1 : ∀ (i : Nat) (h : i < vs.length), FarB vs[i] va
 far2 : ∀ (i : Nat) (h : i < vs.length), FarB vs[i] vv
 far3 : FarB va vv
 blk : Blk w ob [.int .i64 0, .int .i64 0, .slice none 0 0, .slice none 0 0, vv] 30
theorem WMem.below {B ob : Nat} {w w' : World} {vr va ve vv : Value} {vs : List Value} {rs : List (List Int)} {ys : List Int} {es : List Edge} {xs : List Int} (h : WMem B ob w vr va ve vv vs rs ys es xs) (hb : Below w.heap.size w w') : WMem B ob w' vr va ve vv vs rs ys es xs :=
 ⟨h.rows.below hb, owns_below h.atq hb, owns_below h.vd hb, owns_below h.ed hb, h.far1, h.far2, h.far3, h.blk.below hb⟩
theorem WMem.rowLt {B ob : Nat} {w : World} {vr va ve vv : Value} {vs : List Value} {rs : List (List Int)} {ys : List Int} {es : List Edge} {xs : List Int} (h : WMem B ob w vr va ve vv vs rs ys es xs) (i : Nat) (hi : i < vs.length) : ∀ x, vs[i].ownBlock = some x → x < w.heap.size :=
 fun x e => ((h.rows.2.2.1 i hi (by rw [← h.rows.1]; exact hi)).lt x e).2
/-- One verdict more. -/
theorem WMem.pushV {B ob : Nat} {w w1 w2 : World} {vr va ve vv vv' : Value} {vs : List Value} {rs : List (List Int)} {ys : List Int} {es : List Edge} {xs : List Int} {x : Int} (h : WMem B ob w vr va ve vv vs rs ys es xs) (hA : Below w.heap.size w w1) (hg : w1.grownBy w2 vv.ownBlock)
  (ho : w2.ownsRow B 2 1 vv' (xs.length + 1) (xs.map (Value.int .i64) ++ [.int .i64 x])) (ha : vv'.ownBlock = vv.ownBlock ∨ vv'.ownBlock = some w1.heap.size) :
  WMem B ob (w2.setCell ⟨ob, 4, none⟩ vv') vr va ve vv' vs rs ys es (xs ++ [x]) := by
 have h1 := h.below hA
 have hb2 : Blk w2 ob _ _ := h1.blk.kept hg (blk_own_ne' h1.blk h1.vd (by decide))
 have r2 := h1.rows.kept hg (own_types h1.rows.2.1 h1.vd (by decide)) (fun i hi => (h1.far2 i hi).or)
 have a2 := h1.atq.kept hg h1.far3.or
 have e2 := h1.ed.kept hg (own_types h1.ed h1.vd (by decide))
 refine ⟨r2.set1 hb2 (by decide) (by decide) 4 _, own_sets a2 hb2 (by decide) 4 _, ?_, own_sets e2 hb2 (by decide) 4 _, h1.far1, fun i hi => (h1.far2 i hi).new (h1.rowLt i hi) ha, h1.far3.new (fun x e => (h1.atq.lt x e).2) ha, hb2.set 4 _⟩
 have := own_sets ho hb2 (by decide) 4 vv'
 rw [List.length_append, List.map_append]
 exact this
/-- One state of the property more. -/
theorem WMem.pushA {B ob : Nat} {w w1 w2 : World} {vr va va' ve vv : Value} {vs : List Value} {rs : List (List Int)} {ys : List Int} {es : List Edge} {xs : List Int} {y : Int} (h : WMem B ob w vr va ve vv vs rs ys es xs) (hA : Below w.heap.size w w1) (hg : w1.grownBy w2 va.ownBlock)
  (ho : w2.ownsRow B 2 1 va' (ys.length + 1) (ys.map (Value.int .i64) ++ [.int .i64 y])) (ha : va'.ownBlock = va.ownBlock ∨ va'.ownBlock = some w1.heap.size) :
  WMem B ob w2 vr va' ve vv vs rs (ys ++ [y]) es xs := by
 have h1 := h.below hA
 refine ⟨h1.rows.kept hg (own_types h1.rows.2.1 h1.atq (by decide)) (fun i hi => (h1.far1 i hi).or), ?_, h1.vd.kept hg h1.far3.symm.or, h1.ed.kept hg (own_types h1.ed h1.atq (by decide)), fun i hi => (h1.far1 i hi).new (h1.rowLt i hi) ha, h1.far2, (h1.far3.symm.new (fun x e => (h1.vd.lt x e).2) ha).symm, h1.blk.kept hg (blk_own_ne' h1.blk h1.atq (by decide))⟩
 rw [List.length_append, List.map_append]
 exact ho
/-- One set more. -/
theorem WMem.pushR {B B2 ob : Nat} {w w1 w2 : World} {vr vr' va ve vv rv : Value} {vs : List Value} {rs : List (List Int)} {ys : List Int} {es : List Edge} {xs : List Int} {r : List Int} (h : WMem B ob w vr va ve vv vs rs ys es xs) (hA : Below w.heap.size w w1) (hrow : w1.ownsRow B2 2 1 rv r.length (r.map (Value.int .i64)))
  (hB2 : w.heap.size ≤ B2) (hB : B ≤ w.heap.size) (hg : w1.grownBy w2 vr.ownBlock) (hv : w2.ownsRow B 28 1 vr' (vs.length + 1) (vs ++ [rv])) :
  WMem B ob w2 vr' va ve vv (vs ++ [rv]) (rs ++ [r]) ys es xs := by
 have h1 := h.below hA
 have hnew : ∀ x, rv.ownBlock = some x → w.heap.size ≤ x := fun x e => Nat.le_trans hB2 (hrow.lt x e).1
 refine ⟨OwnIntss.push (B := B2) (xs := r) (by decide) h.rows hB2 hA hrow (Nat.le_trans hB hB2) hg hv, h1.atq.kept hg (own_types h1.atq h1.rows.2.1 (by decide)), h1.vd.kept hg (own_types h1.vd h1.rows.2.1 (by decide)), h1.ed.kept hg (own_types h1.ed h1.rows.2.1 (by decide)), fun i hi => ?_, fun i hi => ?_, h1.far3, h1.blk.kept hg (blk_own_ne' h1.blk h1.rows.2.1 (by decide))⟩
 ·by_cases hlt : i < vs.length
  ·rw [List.getElem_append_left hlt]; exact h.far1 i hlt
  ·have e : i = vs.length := by simp at hi; omega
   subst e
   rw [List.getElem_concat_length rfl]
   intro x hx hy
   have := hnew x hx
   have := (h.atq.lt x hy).2
   omega
 ·by_cases hlt : i < vs.length
  ·rw [List.getElem_append_left hlt]; exact h.far2 i hlt
  ·have e : i = vs.length := by simp at hi; omega
   subst e
   rw [List.getElem_concat_length rfl]
   intro x hx hy
   have := hnew x hx
   have := (h.vd.lt x hy).2
   omega
/-- One edge more. -/
theorem WMem.pushE {B ob : Nat} {w w1 w2 : World} {vr va ve ve' vv : Value} {vs : List Value} {rs : List (List Int)} {ys : List Int} {es : List Edge} {xs : List Int} {x : Edge} (h : WMem B ob w vr va ve vv vs rs ys es xs) (hA : Below w.heap.size w w1) (hg : w1.grownBy w2 ve.ownBlock)
  (ho : w2.ownsRow B 59 3 ve' (es.length + 1) (es.flatMap encE ++ encE x)) : WMem B ob w2 vr va ve' vv vs rs ys (es ++ [x]) xs := by
 have h1 := h.below hA
 refine ⟨h1.rows.kept hg (own_types h1.rows.2.1 h1.ed (by decide)) (fun i hi => own_types (h1.rows.2.2.1 i hi (by rw [← h1.rows.1]; exact hi)) h1.ed (by decide)), h1.atq.kept hg (own_types h1.atq h1.ed (by decide)), h1.vd.kept hg (own_types h1.vd h1.ed (by decide)), ?_, h1.far1, h1.far2, h1.far3, h1.blk.kept hg (blk_own_ne' h1.blk h1.ed (by decide))⟩
 simpa using ho
/-- The beginning: one set, one state, no edge, no verdict. -/
theorem WMem.start {w0 W : World} {B B2 : Nat} {rv : Value} {xs : List Int} {y : Int} (hB : B ≤ B2) (hB2 : B ≤ w0.heap.size) (hr : w0.ownsRow B2 2 1 rv xs.length (xs.map (Value.int .i64)))
  (hW : W = (((w0.alloc (.cells #[rv] 28)).alloc (.cells #[.int .i64 y] 2)).alloc (.cells #[.int .i64 0, .int .i64 0, .slice none 0 0, .slice none 0 0, .slice none 0 0] 30)).alloc (.cells #[] 59)) :
  WMem B (w0.heap.size + 1 + 1) W (.slice (some ⟨w0.heap.size, 0, none⟩) 1 1) (.slice (some ⟨w0.heap.size + 1, 0, none⟩) 1 1) (.slice (some ⟨w0.heap.size + 1 + 1 + 1, 0, none⟩) 0 0) (.slice none 0 0) [rv] [xs] [y] [] [] := by
 have hlt := hr.lt
 have r1 : (w0.alloc (.cells #[rv] 28)).ownsRow B 28 1 (.slice (some ⟨w0.heap.size, 0, none⟩) 1 1) 1 [rv] := World.ownsRow_lit (size := 1) w0 #[rv] 1 hB2 (by decide) rfl
 have r0 : w0.ownsRow B 2 1 rv xs.length (xs.map (Value.int .i64)) := own_lower hr hB
 have a1 := World.ownsRow_lit (base := B) (e := 2) (size := 1) (w0.alloc (.cells #[rv] 28)) #[.int .i64 y] 1 (by simp; omega) (by decide) rfl
 have b1 := Blk.new ((w0.alloc (.cells #[rv] 28)).alloc (.cells #[.int .i64 y] 2)) [.int .i64 0, .int .i64 0, .slice none 0 0, .slice none 0 0, .slice none 0 0] 30
 have e1 := World.ownsRow_lit (base := B) (e := 59) (size := 3) (((w0.alloc (.cells #[rv] 28)).alloc (.cells #[.int .i64 y] 2)).alloc (.cells #[.int .i64 0, .int .i64 0, .slice none 0 0, .slice none 0 0, .slice none 0 0] 30)) #[] 0 (by simp; omega) (by simp [maxLen]) rfl
 simp only [World.size_alloc] at a1 b1 e1
 rw [hW]
 refine ⟨⟨rfl, ((r1.alloc _).alloc _).alloc _, ?_, ?_, ?_⟩, (a1.alloc _).alloc _, World.ownsRow_nil _ _ _ _, e1, ?_, ?_, ?_, b1.alloc _⟩
 ·intro i hi hi'
  obtain rfl : i = 0 := by simp at hi; omega
  exact (((r0.alloc _).alloc _).alloc _).alloc _
 ·intro i j hi hj hij
  simp at hi hj
  omega
 ·intro i hi
  obtain rfl : i = 0 := by simp at hi; omega
  show rv.ownBlock = none ∨ rv.ownBlock ≠ some w0.heap.size
  cases hb : rv.ownBlock with
  | none => exact .inl rfl
  | some b =>
   refine .inr fun e => ?_
   have := (hlt b hb).2
   have := Option.some.inj e
   omega
 ·intro i hi
  obtain rfl : i = 0 := by simp at hi; omega
  intro x hx hy
  have := (hlt x hx).2
  have : w0.heap.size + 1 = x := Option.some.inj hy
  omega
 ·intro i hi
  exact (FarB.none _ _ _).symm
 ·exact (FarB.none _ _ _).symm

end Go.Proofs.YtmeibnhhlknbfaaGreatDoor

namespace Go.Proofs.YtmeibnhhlknbfaaGreatDoor
open Go Go.RowKit


/-- The verdicts of the first n rows. -/
def vdsTo (p : Lts) (c d : List Bool) (rs : List WSt) (n : Nat) : List Int := (rs.take n).map fun r => vdL p c d r.1 r.2
theorem vdsTo_len (p : Lts) (c d : List Bool) {rs : List WSt} {n : Nat} (h : n ≤ rs.length) : (vdsTo p c d rs n).length = n := by unfold vdsTo; rw [List.length_map, List.length_take]; omega
theorem vdsTo_succ (p : Lts) (c d : List Bool) {rs : List WSt} {n : Nat} {r : WSt} (h : rs[n]? = some r) : vdsTo p c d rs (n + 1) = vdsTo p c d rs n ++ [vdL p c d r.1 r.2] := by
 unfold vdsTo
 rw [List.take_add_one, h, List.map_append]
 rfl
theorem vdsTo_more (p : Lts) (c d : List Bool) (rs : List WSt) {u : List WSt} {n : Nat} (h : n ≤ rs.length) : vdsTo p c d (rs ++ u) n = vdsTo p c d rs n := by unfold vdsTo; rw [List.take_append_of_le_length h]
theorem vdsTo_all (p : Lts) (c d : List Bool) (rs : List WSt) : vdsTo p c d rs rs.length = rs.map fun r => vdL p c d r.1 r.2 := by unfold vdsTo; rw [List.take_length]

end Go.Proofs.YtmeibnhhlknbfaaGreatDoor

namespace Go.Proofs.YtmeibnhhlknbfaaGreatDoor
open Go Go.RowKit

set_option maxRecDepth 100000 in
set_option maxHeartbeats 1000000 in
theorem l11Out_any (p lo : Nat) (t : Lts) (s : Int) (w : World) (hsmall : t.edges.length ≤ 1073741824) (hp : LtsPtr lo w p t) : Calls Tryz.prog 24 #[.pointer (some ⟨p, 0, none⟩), .int .i64 s] w (MadeOut t s w) := by
 obtain ⟨lv, ev, hpl, -, -, -, q3, -, he⟩ := hp
 obtain ⟨ae, ce, rfl, hen, hec, hrow⟩ := he
 obtain ⟨i0, hi, hz0, hz1, hz2⟩ := info_parts info_edge2
 have HQ3 := Lib.hid q3
 go_enter Tryz.func24, Tryz.ntmps24
 go_wp2
 clear q3
 go_loopw [5, 6] (fun v i wr => ∃ k : Nat, k ≤ t.edges.length ∧ i = .int .i64 k ∧ Below w.heap.size w wr ∧ wr.ownsRow w.heap.size 59 3 v ((t.edges.take k).filter fun e => e.src == s).length (((t.edges.take k).filter fun e => e.src == s).flatMap encE)) (fun _ i _ => t.edges.length - (intOf i).toNat)
 case atStart => exact ⟨0, Nat.zero_le _, rfl, (Below.refl _ _).alloc (Nat.le_refl _) _, World.ownsRow_lit (size := 3) w #[] 0 (Nat.le_refl _) (by simp [maxLen]) rfl⟩
 case round =>
  obtain ⟨k, hk, rfl, hbl, ho⟩ := hrel
  have HBL := Lib.hid hbl
  have HO := Lib.hid ho
  have hsz := hbl.size
  have q3 := keeps hbl hpl HQ3.out
  have hfl : ((t.edges.take k).filter fun e => e.src == s).length ≤ k := Nat.le_trans (List.length_filter_le _ _) (List.length_take_le _ _)
  clear hbl ho
  by_cases hlt : k < t.edges.length
  ·obtain ⟨be, oe, rfl, -, hbe, e1, e2, e3⟩ := (hrow.below HBL.out).edge hlt
   clear hrow
   cases g : (t.edges[k].src == s)
   ·have HL : Hid ((t.edges.take (k + 1)).filter (fun e => e.src == s) = (t.edges.take k).filter fun e => e.src == s) := by
     unfold Hid
     rw [List.take_succ_eq_append_getElem hlt, List.filter_append]
     simp [g]
    go_wp2
    go_roundw
    case rel => exact ⟨k + 1, by omega, by go_num, HBL.out, by rw [HL.out]; exact HO.out⟩
    case measure => simp [intOf]; omega
   ·have HL : Hid ((t.edges.take (k + 1)).filter (fun e => e.src == s) = ((t.edges.take k).filter fun e => e.src == s) ++ [t.edges[k]]) := by
     unfold Hid
     rw [List.take_succ_eq_append_getElem hlt, List.filter_append]
     simp [g]
    generalize hfs : (t.edges.take k).filter (fun e => e.src == s) = fs at *
    have HFS := Lib.hid hfs
    clear hfs
    go_wp2_with (at_builtin; refine wpList_append_own _ rfl _ _ 25 rfl w.heap.size 59 i0 (.agg #[.int .i64 0, .int .i64 0, .int .i64 0]) 3 24 Tryz.underlying25 hi hz0 hz1 hz2 rfl (by decide) _ _ _ rfl (HO.out.alloc _) ⟨wr.heap.size, 0, none⟩ 1 1 (encE t.edges[k]) rfl rfl ?c1 ?c2 ?c3 ?c4 ?c5 ?_)
    case c1 => exact three_new _ _ _
    case c2 => intro u hu; simp [encE] at hu; rcases hu with rfl | rfl | rfl <;> rfl
    case c3 => simp [maxLen]; omega
    case c4 => omega
    case c5 => simp; omega
    intro v' w1 ho1 hg1 _
    have HO2 : Hid (w1.ownsRow w.heap.size 59 3 v' (fs ++ [t.edges[k]]).length ((fs ++ [t.edges[k]]).flatMap encE)) := by
     unfold Hid
     rw [List.length_append, List.flatMap_append, List.flatMap_singleton]
     exact ho1
    have HB2 : Hid (Below w.heap.size w w1) := (HBL.out.alloc hsz _).grown hg1 (by simp; omega) (fun b e => (HO.out.lt b e).1)
    clear ho1 hg1
    go_wp2
    go_roundw
    case rel => exact ⟨k + 1, by omega, by go_num, HB2.out, by rw [HL.out]; exact HO2.out⟩
    case measure => simp [intOf]; omega
  ·clear hrow
   go_wp2
   go_ret
   obtain rfl : k = t.edges.length := by omega
   exact ⟨_, rfl, HBL.out, by unfold outOf; have := HO.out; rw [List.take_length] at this; exact this⟩

end Go.Proofs.YtmeibnhhlknbfaaGreatDoor

namespace Go.Proofs.YtmeibnhhlknbfaaGreatDoor
open Go Go.RowKit

set_option maxRecDepth 100000 in
set_option maxHeartbeats 4000000 in
theorem l11Single_any (p lo : Nat) (t : Lts) (w : World) (hp : LtsPtr lo w p t) : Calls Tryz.prog 31 #[.pointer (some ⟨p, 0, none⟩)] w (Decides (Single t) w) := by
 obtain ⟨lv, ev, hpl, -, -, -, q3, -, he⟩ := hp
 obtain ⟨ae, ce, rfl, hen, hec, hrow⟩ := he
 have HQ3 := Lib.hid q3
 go_enter Tryz.func31, Tryz.ntmps31
 go_wp2
 go_loopw [3] (fun i wr => ∃ k : Nat, k ≤ t.edges.length ∧ i = .int .i64 k ∧ Below w.heap.size w wr ∧ (∀ q (h : q < t.edges.length), q < k → t.edges[q].lab ≠ 0) ∧ (∀ q (h : q + 1 < t.edges.length), q + 1 < k → ¬ (t.edges[q + 1].src = t.edges[q].src ∧ t.edges[q + 1].lab = t.edges[q].lab))) (fun i _ => t.edges.length - (intOf i).toNat)
 case atStart => exact ⟨0, Nat.zero_le _, rfl, Below.refl _ _, fun _ _ h => by omega, fun _ _ h => by omega⟩
 case round =>
  obtain ⟨k, hk, rfl, hbl, hx1, hx2⟩ := hrel
  have HX1 := Lib.hid hx1
  have HX2 := Lib.hid hx2
  have HBL := Lib.hid hbl
  have hsz := hbl.size
  replace q3 := keeps hbl hpl HQ3.out
  clear hx1 hx2 hbl
  by_cases hlt : k < t.edges.length
  ·obtain ⟨be, oe, rfl, -, hbe, e1, e2, e3⟩ := (hrow.below HBL.out).edge hlt
   have s3 := later_cell (show p < wr.heap.size by omega) q3
   replace e1 := later_cell hbe e1
   replace e2 := later_cell hbe e2
   clear e3
   cases g1 : (t.edges[k].lab == 0)
   ·have HG1 : Hid (t.edges[k].lab ≠ 0) := by unfold Hid; simpa using g1
    rcases Nat.eq_zero_or_pos k with hk0 | hk0
    ·have hkz : k ≤ 0 := by omega
     have hk1 : decide ((0 : Int) < (k : Int)) = false := by rw [decide_eq_false_iff_not]; omega
     have hk2 : decide (0 < k) = false := by rw [decide_eq_false_iff_not]; omega
     have hk3 : ¬ (0 : Int) < (k : Int) := by omega
     have hk4 : ¬ 0 < k := by omega
     clear hk0 hrow
     go_wp2
     refine wp_region_later (by kernel_rfl) (by kernel_rfl) ?_
     repeat (go_big_quiet_step ((fail)))
     refine wpQuiet_nil ?_
     intro _ hw9
     obtain ⟨nl, hw8⟩ := hw9
     subst hw8
     clear e1 e2 g1
     have s3 := s3 nl
     go_wp2
     go_roundw
     case rel => exact ⟨k + 1, by omega, by go_num, HBL.out.trans (nl.h.mono hsz), fun q h h' => by
       obtain rfl : q = k := by omega
       exact HG1.out, fun q h h' => by omega⟩
     case measure => simp [intOf]; omega
    ·obtain ⟨m, rfl⟩ : ∃ m, k = m + 1 := ⟨k - 1, by omega⟩
     clear hk0
     obtain ⟨_, _, e9, -, -, d1, d2, d3⟩ := (hrow.below HBL.out).edge (show m < t.edges.length by omega)
     simp only [Option.some.injEq, Addr.mk.injEq, and_true] at e9
     obtain ⟨rfl, rfl⟩ := e9
     replace d1 := later_cell hbe d1
     replace d2 := later_cell hbe d2
     clear d3 hrow
     have hk1 : decide ((0 : Int) < (m : Int) + 1) = true := by rw [decide_eq_true_eq]; omega
     have hk2 : (0 : Int) < (m : Int) + 1 := by omega
     cases g2 : (t.edges[m + 1].src == t.edges[m].src)
     ·have HG2 : Hid (¬ t.edges[m + 1].src = t.edges[m].src) := by unfold Hid; simpa using g2
      go_wp2
      refine wp_region_later (by kernel_rfl) (by kernel_rfl) ?_
      repeat (go_big_quiet_step ((fail)))
      refine wpQuiet_nil ?_
      intro _ hw9
      obtain ⟨nl, hw8⟩ := hw9
      subst hw8
      clear e1 e2 g1 g2 d1 d2
      have s3 := s3 nl
      go_wp2
      go_roundw
      case rel => exact ⟨m + 1 + 1, by omega, by go_num, HBL.out.trans (nl.h.mono hsz), fun q h h' => by
        by_cases e : q = m + 1
        ·subst e; exact HG1.out
        ·exact HX1.out q h (by omega), fun q h h' => by
        by_cases e : q = m
        ·subst e; exact fun h => HG2.out h.1
        ·exact HX2.out q h (by omega)⟩
      case measure => simp [intOf]; omega
     ·cases g3 : (t.edges[m + 1].lab == t.edges[m].lab)
      ·have HG3 : Hid (¬ t.edges[m + 1].lab = t.edges[m].lab) := by unfold Hid; simpa using g3
       go_wp2
       refine wp_region_later (by kernel_rfl) (by kernel_rfl) ?_
       repeat (go_big_quiet_step ((fail)))
       refine wpQuiet_nil ?_
       intro _ hw9
       obtain ⟨nl, hw8⟩ := hw9
       subst hw8
       clear e1 e2 g1 g2 g3 d1 d2
       have s3 := s3 nl
       go_wp2
       go_roundw
       case rel => exact ⟨m + 1 + 1, by omega, by go_num, HBL.out.trans (nl.h.mono hsz), fun q h h' => by
         by_cases e : q = m + 1
         ·subst e; exact HG1.out
         ·exact HX1.out q h (by omega), fun q h h' => by
         by_cases e : q = m
         ·subst e; exact fun h => HG3.out h.2
         ·exact HX2.out q h (by omega)⟩
       case measure => simp [intOf]; omega
      ·have HG2 : Hid (t.edges[m + 1].src = t.edges[m].src) := by unfold Hid; simpa using g2
       have HG3 : Hid (t.edges[m + 1].lab = t.edges[m].lab) := by unfold Hid; simpa using g3
       go_wp2
       refine wp_region_later (by kernel_rfl) (by kernel_rfl) ?_
       repeat (go_big_quiet_step ((fail)))
       refine wpQuiet_nil ?_
       intro _ hw9
       obtain ⟨nl, hw8⟩ := hw9
       subst hw8
       go_wp2
       go_ret
       exact ⟨false, rfl, ⟨(fun h => by cases h), fun h => absurd ⟨HG2.out, HG3.out⟩ (h.one m hlt)⟩, HBL.out.trans (nl.h.mono hsz)⟩
   ·clear hrow
    have HG1 : Hid (t.edges[k].lab = 0) := by unfold Hid; simpa using g1
    go_wp2
    refine wp_region_later (by kernel_rfl) (by kernel_rfl) ?_
    repeat (go_big_quiet_step ((fail)))
    refine wpQuiet_nil ?_
    intro _ hw9
    obtain ⟨nl, hw8⟩ := hw9
    subst hw8
    go_wp2
    go_ret
    exact ⟨false, rfl, ⟨(fun h => by cases h), fun h => absurd HG1.out (h.visible k hlt)⟩, HBL.out.trans (nl.h.mono hsz)⟩
  ·clear hrow
   go_wp2
   go_ret
   exact ⟨true, rfl, ⟨fun _ => ⟨fun q h => HX1.out q h (by omega), fun q h => HX2.out q h (by omega)⟩, fun _ => rfl⟩, HBL.out⟩

end Go.Proofs.YtmeibnhhlknbfaaGreatDoor

namespace Go.Proofs.YtmeibnhhlknbfaaGreatDoor
open Go Go.RowKit

set_option maxRecDepth 100000 in
set_option maxHeartbeats 4000000 in
theorem l12Go_any (p lo : Nat) (t : Lts) (q : Int) (s : ByteArray) (w : World) (hE : ∀ i (h : i < t.edges.length), EdgeOk t t.edges[i]) (hp : LtsPtr lo w p t) :
  Calls Tryz.prog 33 #[.pointer (some ⟨p, 0, none⟩), .int .i64 q, .string s] w fun e w' => e = .returned (.int .i64 (goTo t q s)) ∧ Below w.heap.size w w' := by
 obtain ⟨lv, ev, hpl, -, -, q2, q3, hl, he⟩ := hp
 obtain ⟨ae, ce, rfl, hen, hec, hrow⟩ := he
 obtain ⟨al, cl, rfl, hln, hlc, hlrow⟩ := hl
 have HQ3 := Lib.hid q3
 have HQ2 := Lib.hid q2
 have HE := Lib.hid hE
 clear hE q2
 by_cases hq : q < 0
 ·have hq' : decide (0 ≤ q) = false := by rw [decide_eq_false_iff_not]; omega
  have hg : Hid (goTo t q s = -1) := by unfold Hid goTo; rw [if_pos hq]
  by_cases h0 : 0 < t.edges.length
  ·go_enter Tryz.func33, Tryz.ntmps33
   go_wp2
   go_loopw [7] (fun i wr => i = .int .i64 0 ∧ wr = w) (fun _ _ => 0)
   case atStart => exact ⟨rfl, rfl⟩
   case round =>
    obtain ⟨rfl, rfl⟩ := hrel
    go_wp2
    go_ret
    exact ⟨ret_int hg.out.symm, Below.refl _ _⟩
  ·go_enter Tryz.func33, Tryz.ntmps33
   go_wp2
   go_loopw [7] (fun i wr => i = .int .i64 0 ∧ wr = w) (fun _ _ => 0)
   case atStart => exact ⟨rfl, rfl⟩
   case round =>
    obtain ⟨rfl, rfl⟩ := hrel
    go_wp2
    go_ret
    exact ⟨ret_int hg.out.symm, Below.refl _ _⟩
 ·have hq0 : 0 ≤ q := by omega
  have hg : Hid (goTo t q s = ((t.edges.find? (hitB t q s)).map Edge.dst).getD (-1)) := by unfold Hid goTo; rw [if_neg hq]
  clear hq
  go_enter Tryz.func33, Tryz.ntmps33
  go_wp2
  clear q3
  go_loopw [7] (fun i wr => ∃ k : Nat, k ≤ t.edges.length ∧ i = .int .i64 k ∧ Below w.heap.size w wr ∧ ∀ j (h : j < t.edges.length), j < k → hitB t q s t.edges[j] = false) (fun i _ => t.edges.length - (intOf i).toNat)
  case atStart => exact ⟨0, Nat.zero_le _, rfl, Below.refl _ _, fun _ _ h => by omega⟩
  case round =>
   obtain ⟨k, hk, rfl, hbl, hx⟩ := hrel
   have HX := Lib.hid hx
   have HBL := Lib.hid hbl
   have hsz := hbl.size
   have q3 := keeps hbl hpl HQ3.out
   have q2 := keeps hbl hpl HQ2.out
   clear hx hbl
   by_cases hlt : k < t.edges.length
   ·have hek := HE.out k hlt
    have hk0 := hek.l0
    have hk1 := hek.l1
    have hkn : t.edges[k].lab.toNat < t.labels.length := by omega
    obtain ⟨be, oe, rfl, -, hbe, e1, e2, e3⟩ := (hrow.below HBL.out).edge hlt
    obtain ⟨bl, ol, rfl, -, hbl, c1⟩ := (hlrow.below HBL.out).one hkn
    simp only [encS, List.getElem?_cons_zero] at c1
    rw [labAt_get] at c1
    have HH : Hid (hitB t q s t.edges[k] = ((t.edges[k].src == q) && ((labAt t t.edges[k]).toList == s.toList))) := rfl
    have hee : ∃ e, e = t.edges[k] := ⟨_, rfl⟩
    obtain ⟨e, hee⟩ := hee
    rw [← hee] at e1 e2 e3 c1 HH hk0 hk1 hkn
    have HEE := Lib.hid hee
    clear hee hek
    generalize labAt t e = ls at *
    have hlab : ∃ n : Nat, (n : Int) = e.lab := ⟨e.lab.toNat, by omega⟩
    obtain ⟨n, hn⟩ := hlab
    rw [← hn] at e2 c1 hk0 hk1 hkn
    simp only [Int.toNat_natCast] at c1 hkn
    clear hn hrow hlrow hk0 hk1
    have s2 := later_cell (show p < wr.heap.size by omega) q2
    have s3 := later_cell (show p < wr.heap.size by omega) q3
    have f3 := later_cell hbe e3
    replace e1 := later_cell hbe e1
    replace e2 := later_cell hbe e2
    replace c1 := later_cell hbl c1
    cases g1 : (e.src == q)
    ·have HF : Hid (hitB t q s t.edges[k] = false) := by unfold Hid; rw [← HEE.out, HH.out, g1]; rfl
     go_wp2
     refine wp_region_later (by kernel_rfl) (by kernel_rfl) ?_
     repeat (go_big_quiet_step ((fail)))
     refine wpQuiet_nil ?_
     intro _ hw9
     obtain ⟨nl, hw8⟩ := hw9
     subst hw8
     clear e1 e2 e3 f3 c1 s2 g1
     have s3 := s3 nl
     go_wp2
     go_roundw
     case rel => exact ⟨k + 1, by omega, by go_num, HBL.out.trans (nl.h.mono hsz), fun j h h' => by
       by_cases e : j = k
       ·subst e; exact HF.out
       ·exact HX.out j h (by omega)⟩
     case measure => simp [intOf]; omega
    ·cases g2 : (ls.toList == s.toList)
     ·have HF : Hid (hitB t q s t.edges[k] = false) := by unfold Hid; rw [← HEE.out, HH.out, g1, g2]; rfl
      go_wp2
      refine wp_region_later (by kernel_rfl) (by kernel_rfl) ?_
      repeat (go_big_quiet_step ((fail)))
      refine wpQuiet_nil ?_
      intro _ hw9
      obtain ⟨nl, hw8⟩ := hw9
      subst hw8
      clear e1 e2 e3 f3 c1 s2 g1 g2
      have s3 := s3 nl
      go_wp2
      go_roundw
      case rel => exact ⟨k + 1, by omega, by go_num, HBL.out.trans (nl.h.mono hsz), fun j h h' => by
        by_cases e : j = k
        ·subst e; exact HF.out
        ·exact HX.out j h (by omega)⟩
      case measure => simp [intOf]; omega
     ·have HF : Hid (goTo t q s = e.dst) := by
       unfold Hid
       have : hitB t q s t.edges[k] = true := by rw [← HEE.out, HH.out, g1, g2]; rfl
       rw [hg.out, find_at hlt HX.out this, ← HEE.out]; rfl
      go_wp2
      refine wp_region_later (by kernel_rfl) (by kernel_rfl) ?_
      repeat (go_big_quiet_step ((fail)))
      refine wpQuiet_nil ?_
      intro _ hw9
      obtain ⟨nl, hw8⟩ := hw9
      subst hw8
      clear e1 e2 e3 c1 s2 g1 g2
      have s3 := s3 nl
      have f3 := f3 nl
      go_wp2
      go_ret
      exact ⟨ret_int HF.out.symm, HBL.out.trans (nl.h.mono hsz)⟩
   ·clear hrow hlrow
    go_wp2
    go_ret
    refine ⟨ret_int ?_, HBL.out⟩
    rw [hg.out, find_none (fun j h => HX.out j h (by omega))]; rfl

end Go.Proofs.YtmeibnhhlknbfaaGreatDoor

namespace Go.Proofs.YtmeibnhhlknbfaaGreatDoor
open Go Go.RowKit

set_option maxRecDepth 100000 in
set_option maxHeartbeats 1000000 in
theorem l30To_any (bt bp be oe lo : Nat) (t p : Lts) (e : Edge) (q : Int) (w : World) (hE : ∀ i (h : i < p.edges.length), EdgeOk p p.edges[i]) (hek : EdgeOk t e) (ht : LtsPtr lo w bt t) (hp : LtsPtr lo w bp p)
  (hbe : be < w.heap.size) (he : EdgeCells w be oe e) :
  Calls Tryz.prog 63 #[.pointer (some ⟨bt, 0, none⟩), .pointer (some ⟨bp, 0, none⟩), .pointer (some ⟨be, oe, none⟩), .int .i64 q] w fun r w' => r = .returned (.int .i64 (toState t p e q)) ∧ Below w.heap.size w w' := by
 obtain ⟨e1, e2, e3⟩ := he
 cases g : (e.lab == 0)
 ·have hF : Hid (toState t p e q = goTo p q (labAt t e)) := by unfold Hid toState; rw [if_neg (by simpa using g)]
  obtain ⟨lv, ev, hpl, -, -, q2, -, hl, -⟩ := ht
  obtain ⟨al, cl, rfl, hln, hlc, hlrow⟩ := hl
  have hk0 := hek.l0
  have hk1 := hek.l1
  have hkn : e.lab.toNat < t.labels.length := by omega
  obtain ⟨bl, ol, rfl, -, hbl, c1⟩ := hlrow.one hkn
  simp only [encS, List.getElem?_cons_zero] at c1
  rw [labAt_get] at c1
  generalize labAt t e = ls at *
  have hlab : ∃ n : Nat, (n : Int) = e.lab := ⟨e.lab.toNat, by omega⟩
  obtain ⟨n, hn⟩ := hlab
  rw [← hn] at e2 c1 hk0 hk1 hkn g
  simp only [Int.toNat_natCast] at c1 hkn
  have HP := Lib.hid hp
  have HE := Lib.hid hE
  clear hn hlrow hk0 hk1 hp hE hek
  have s2 := later_cell hpl q2
  have f2 := later_cell hbe e2
  replace c1 := later_cell hbl c1
  clear e1 e3 q2
  go_enter Tryz.func63, Tryz.ntmps63
  go_wp2
  clear e2
  refine wp_region_later (by kernel_rfl) (by kernel_rfl) ?_
  repeat (go_big_quiet_step ((go_at_call 33; exact later_call (l12Go_any _ lo _ _ _ _ HE.out (LtsPtr.below HP.out (Later.h _))))))
  refine wpQuiet_nil ?_
  intro _ hw9
  obtain ⟨nl, hw8⟩ := hw9
  subst hw8
  go_wp2
  go_ret
  exact ⟨ret_int hF.out.symm, nl.h⟩
 ·have hF : Hid (toState t p e q = q) := by unfold Hid toState; rw [if_pos (by simpa using g)]
  clear e1 e3 ht hp hE hek
  go_enter Tryz.func63, Tryz.ntmps63
  go_wp2
  go_ret
  exact ⟨ret_int hF.out.symm, Below.refl _ _⟩

def RetCode (c : Int) (w : World) (e : Ending) (w' : World) : Prop := e = .returned (.int .i64 c) ∧ Below w.heap.size w w'

theorem l30Ask_bad (bt bp lo : Nat) (t p : Lts) (w : World) (h1 : Short t.labels) (h2 : Short p.labels) (ht : LtsPtr lo w bt t) (hp : LtsPtr lo w bp p) (hn : ¬ (Valid t ∧ Valid p)) :
  Calls Tryz.prog 20 #[.pointer (some ⟨bt, 0, none⟩), .pointer (some ⟨bp, 0, none⟩)] w (RetCode 1 w) := by
 have HT := Lib.hid ht
 have HP := Lib.hid hp
 have H1 := Lib.hid h1
 have H2 := Lib.hid h2
 clear ht hp h1 h2
 by_cases hv : Valid t
 ·have hv2 : ¬ Valid p := fun h => hn ⟨hv, h⟩
  have HV := Lib.hid hv
  have HV2 := Lib.hid hv2
  clear hv hv2 hn
  go_enter Tryz.func20, Tryz.ntmps20
  go_wp2_with fail
  refine (Decides.yes (l11Is_any _ lo t _ H1.out HT.out) HV.out).mono ?_
  rintro e w1 ⟨rfl, hb1⟩
  have HB1 := Lib.hid hb1
  clear hb1
  go_wp2_with fail
  refine (Decides.no (l11Is_any _ lo p _ H2.out (HP.out.below HB1.out)) HV2.out).mono ?_
  rintro e w2 ⟨rfl, hb2⟩
  have HB2 := Lib.hid hb2
  clear hb2
  go_wp2_with fail
  go_ret
  exact ⟨rfl, HB1.out.trans (HB2.out.mono HB1.out.size)⟩
 ·have HV := Lib.hid hv
  clear hv hn
  go_enter Tryz.func20, Tryz.ntmps20
  go_wp2_with fail
  refine (Decides.no (l11Is_any _ lo t _ H1.out HT.out) HV.out).mono ?_
  rintro e w1 ⟨rfl, hb1⟩
  have HB1 := Lib.hid hb1
  clear hb1
  go_wp2_with fail
  go_ret
  exact ⟨rfl, HB1.out⟩

theorem l30Ask_good (bt bp lo : Nat) (t p : Lts) (w : World) (h1 : Short t.labels) (h2 : Short p.labels) (ht : LtsPtr lo w bt t) (hp : LtsPtr lo w bp p) (hv : Valid t) (hv2 : Valid p) (hs : Single p) :
  Calls Tryz.prog 20 #[.pointer (some ⟨bt, 0, none⟩), .pointer (some ⟨bp, 0, none⟩)] w (RetCode 0 w) := by
 have HT := Lib.hid ht
 have HP := Lib.hid hp
 have H1 := Lib.hid h1
 have H2 := Lib.hid h2
 have HV := Lib.hid hv
 have HV2 := Lib.hid hv2
 have HS := Lib.hid hs
 clear ht hp h1 h2 hv hv2 hs
 go_enter Tryz.func20, Tryz.ntmps20
 go_wp2_with fail
 refine (Decides.yes (l11Is_any _ lo t _ H1.out HT.out) HV.out).mono ?_
 rintro e w1 ⟨rfl, hb1⟩
 have HB1 := Lib.hid hb1
 clear hb1
 go_wp2_with fail
 refine (Decides.yes (l11Is_any _ lo p _ H2.out (HP.out.below HB1.out)) HV2.out).mono ?_
 rintro e w2 ⟨rfl, hb2⟩
 have HB2 := Lib.hid (HB1.out.trans (hb2.mono HB1.out.size))
 clear hb2
 go_wp2_with fail
 refine (Decides.yes (l11Single_any _ lo p _ (HP.out.below HB2.out)) HS.out).mono ?_
 rintro e w3 ⟨rfl, hb3⟩
 have HB3 := Lib.hid hb3
 clear hb3
 go_wp2_with fail
 go_ret
 exact ⟨rfl, HB2.out.trans (HB3.out.mono HB2.out.size)⟩

theorem l30Ask_state (bt bp lo : Nat) (t p : Lts) (w : World) (h1 : Short t.labels) (h2 : Short p.labels) (ht : LtsPtr lo w bt t) (hp : LtsPtr lo w bp p) (hv : Valid t) (hv2 : Valid p) (hs : ¬ Single p) :
  Calls Tryz.prog 20 #[.pointer (some ⟨bt, 0, none⟩), .pointer (some ⟨bp, 0, none⟩)] w (RetCode 6 w) := by
 have HT := Lib.hid ht
 have HP := Lib.hid hp
 have H1 := Lib.hid h1
 have H2 := Lib.hid h2
 have HV := Lib.hid hv
 have HV2 := Lib.hid hv2
 have HS := Lib.hid hs
 clear ht hp h1 h2 hv hv2 hs
 go_enter Tryz.func20, Tryz.ntmps20
 go_wp2_with fail
 refine (Decides.yes (l11Is_any _ lo t _ H1.out HT.out) HV.out).mono ?_
 rintro e w1 ⟨rfl, hb1⟩
 have HB1 := Lib.hid hb1
 clear hb1
 go_wp2_with fail
 refine (Decides.yes (l11Is_any _ lo p _ H2.out (HP.out.below HB1.out)) HV2.out).mono ?_
 rintro e w2 ⟨rfl, hb2⟩
 have HB2 := Lib.hid (HB1.out.trans (hb2.mono HB1.out.size))
 clear hb2
 go_wp2_with fail
 refine (Decides.no (l11Single_any _ lo p _ (HP.out.below HB2.out)) HS.out).mono ?_
 rintro e w3 ⟨rfl, hb3⟩
 have HB3 := Lib.hid hb3
 clear hb3
 go_wp2_with fail
 go_ret
 exact ⟨rfl, HB2.out.trans (HB3.out.mono HB2.out.size)⟩

end Go.Proofs.YtmeibnhhlknbfaaGreatDoor

namespace Go.Proofs.YtmeibnhhlknbfaaGreatDoor
open Go Go.RowKit

theorem info_boolL : (Tryz.prog.info? 4).map (fun i => (i.zero, i.size, i.bytes)) = some (some (.bool false), 1, 1) := by kernel_rfl
/-- The list of marks. -/
def MadeLv (t p : Lts) (w : World) (e : Ending) (w' : World) : Prop :=
 ∃ c : List Bool, e = .returned (.slice (some ⟨w.heap.size, 0, none⟩) c.length c.length) ∧ Below w.heap.size w w' ∧ w.heap.size < w'.heap.size
  ∧ w'.ownsRow w.heap.size 4 1 (.slice (some ⟨w.heap.size, 0, none⟩) c.length c.length) c.length (c.map Value.bool) ∧ LvIs t p c
/-- What holds of the marks ahead of a sweep. -/
structure OuterLv (t p : Lts) (N B : Nat) (w wr : World) (gk : Nat) (b : Bool) (c : List Bool) : Prop where
 len : c.length = N
 sound : LvSound t p c
 rest : b = false → LvClosed t p c
 left : 2 * c.count false + b.toNat ≤ gk
 below : Below w.heap.size w wr
 grown : w.heap.size < wr.heap.size
 own : wr.ownsRow B 4 1 (.slice (some ⟨B, 0, none⟩) N N) N (c.map Value.bool)
/-- Nothing is to be marked at an edge. -/
def calmAt (t p : Lts) (c : List Bool) (e : Edge) (n : Nat) : Prop := ∀ q : Nat, q < n → lvB t p c e q = true → c.getD (idx p e.src q) false = true

set_option maxRecDepth 100000 in
set_option maxHeartbeats 4000000 in
theorem l30Leave_any (bt bp lo : Nat) (t p : Lts) (w : World) (hvt : Valid t) (hvp : Valid p) (ht : LtsPtr lo w bt t) (hp : LtsPtr lo w bp p) :
  Calls Tryz.prog 40 #[.pointer (some ⟨bt, 0, none⟩), .pointer (some ⟨bp, 0, none⟩)] w (MadeLv t p w) := by
 have HT := Lib.hid ht
 have HP := Lib.hid hp
 have VT := Lib.hid hvt
 have VP := Lib.hid hvp
 obtain ⟨S, hS⟩ : ∃ S : Nat, (S : Int) = t.states := ⟨t.states.toNat, by have := hvt.st0; omega⟩
 obtain ⟨P, hP⟩ : ∃ P : Nat, (P : Int) = p.states := ⟨p.states.toNat, by have := hvp.st0; omega⟩
 have hS1 : 1 ≤ S := by have := hvt.st0; omega
 have hS2 : S ≤ 40 := by have := hvt.st1; omega
 have hP1 : 1 ≤ P := by have := hvp.st0; omega
 have hP2 : P ≤ 40 := by have := hvp.st1; omega
 have hSP : S * P ≤ 1600 := Nat.mul_le_mul hS2 hP2
 obtain ⟨N, hN⟩ : ∃ N : Nat, N = S * P := ⟨_, rfl⟩
 have hNi : (S : Int) * (P : Int) = (N : Int) := by rw [hN]; simp
 have hN2 : N ≤ 1600 := by omega
 obtain ⟨i0, hi, hz0, hz1, hz2⟩ := info_parts info_boolL
 obtain ⟨_, evt, hbt, a0, -, -, a3, -, het⟩ := ht
 obtain ⟨_, _, hbp, b0, -, -, -, -, -⟩ := hp
 obtain ⟨ea, ec, rfl, hecn, hecc, herow⟩ := het
 obtain ⟨EN, hEN⟩ : ∃ EN, EN = t.edges.length := ⟨_, rfl⟩
 have hEN3 : EN ≤ 300 := by rw [hEN]; exact hvt.most
 rw [← hEN] at a3 hecn
 rw [← hS] at a0
 rw [← hP] at b0
 have HA0 := Lib.hid a0
 have HA3 := Lib.hid a3
 have HB0 := Lib.hid b0
 have HER := Lib.hid herow
 have HSS := Lib.hid hS
 have HPP := Lib.hid hP
 have HNN := Lib.hid hN
 have HEN := Lib.hid hEN
 clear hS hP hN hSP hvt hvp herow hEN a3
 go_enter Tryz.func40, Tryz.ntmps40
 go_wp2
 go_still_tail 9, (by kernel_rfl)
 have hwN : IntKind.i64.wrap (N : Int) = (N : Int) := IntWalk.i64_in _ (by omega)
 refine wpList_make_full _ rfl _ _ 75 rfl w.heap.size 4 i0 _ 1 Tryz.underlying75 hi hz0 hz1 .i64 .i64 _ _ N rfl rfl hwN hwN ?_ ?_ ?_ ?_
 ·rw [hz2]; omega
 ·simp [maxLen]; omega
 ·exact Nat.le_refl _
 intro w1 ho hg
 have hb1 : Below w.heap.size w w1 := ((Below.refl _ w).drew).grown hg (Nat.le_refl _) (fun _ h => by cases h)
 have hs1 : w.heap.size < w1.heap.size := (ho.lt _ rfl).2
 have hmk : (madeCells (Value.bool false).cells (N * 1)).toList = List.replicate N (.bool false) := by rw [Nat.mul_one]; exact toList_madeCells_one _ _
 have HO : Hid (w1.ownsRow w.heap.size 4 1 (.slice (some ⟨w.heap.size, 0, none⟩) N N) N (List.replicate N (.bool false))) := by unfold Hid; rw [← hmk]; exact ho
 clear hmk
 have HB1 := Lib.hid hb1
 clear hi hz0 hz1 hz2 i0 ho hg hb1 a0 b0
 go_wp2
 go_loopg [6] (2 * N + 1) (fun gk v6 wr => ∃ (c : List Bool) (b : Bool), v6 = .bool b ∧ OuterLv t p N w.heap.size w wr gk b c)
 case atStart => exact ⟨List.replicate N false, true, rfl, by simp, LvSound.start _ _ _, (fun h => by cases h), by simp, HB1.out, hs1, by simpa using HO.out⟩
 case round =>
  obtain ⟨c, b, rfl, hrel⟩ := hrel
  have HR := Lib.hid hrel
  have hcl := hrel.len
  have HCLN := Lib.hid hcl
  clear hrel HO HB1 hs1
  cases b
  ·go_wp2
   go_ret
   refine ⟨c, ?_, HR.out.below, HR.out.grown, ?_, ?_, HR.out.sound, HR.out.rest rfl⟩
   ·rw [hcl]; rfl
   ·rw [hcl]; exact HR.out.own
   ·rw [hcl, HNN.out, ← HSS.out, ← HPP.out]; simp
  ·clear hcl
   go_wp2
   go_loopw [6, 7] (fun v6 v7 wr => ∃ (i : Nat) (cB : List Bool) (b : Bool), v6 = .bool b ∧ v7 = .int .i64 i ∧ i ≤ EN ∧ More c cB b ∧ LvSound t p cB ∧ (b = false → ∀ j (h : j < t.edges.length), j < i → calmAt t p cB t.edges[j] P) ∧ Below w.heap.size w wr ∧ w.heap.size < wr.heap.size ∧ wr.ownsRow w.heap.size 4 1 (.slice (some ⟨w.heap.size, 0, none⟩) N N) N (cB.map Value.bool)) (fun _ v7 _ => EN - (intOf v7).toNat)
   case atStart => exact ⟨0, c, false, rfl, rfl, Nat.zero_le _, More.refl _, HR.out.sound, (fun _ _ _ h => absurd h (Nat.not_lt_zero _)), HR.out.below, HR.out.grown, HR.out.own⟩
   case round =>
    obtain ⟨i, cB, b, rfl, rfl, hi, hmo, hso, hcalm, hbl, hgr, ho⟩ := hrel
    obtain ⟨wB, rfl⟩ : ∃ wB : World, wB = wr := ⟨_, rfl⟩
    have HMO := Lib.hid hmo
    have HSO := Lib.hid hso
    have HCALM := Lib.hid hcalm
    have HBL := Lib.hid hbl
    have HOB := Lib.hid ho
    have a3 := keeps hbl hbt HA3.out
    have hbtB : bt < wB.heap.size := Nat.lt_of_lt_of_le hbt hbl.size
    clear hmo hso hcalm ho
    by_cases hlt : i < EN
    ·have hie : i < t.edges.length := by rw [← HEN.out]; exact hlt
     obtain ⟨g, o, rfl, -, hgw, e1, e2, e3⟩ := (HER.out.below hbl).edge hie
     have hek := VT.out.edge i hie
     have hem : t.edges[i] ∈ t.edges := List.getElem_mem _
     obtain ⟨e, hee⟩ : ∃ e, e = t.edges[i] := ⟨_, rfl⟩
     rw [← hee] at e1 e2 e3 hek hem
     have HEE := Lib.hid hee
     have HEK := Lib.hid hek
     have HEM := Lib.hid hem
     obtain ⟨sn, hsn⟩ : ∃ sn : Nat, (sn : Int) = e.src := ⟨e.src.toNat, by have := hek.s0; omega⟩
     obtain ⟨dn, hdn⟩ : ∃ dn : Nat, (dn : Int) = e.dst := ⟨e.dst.toNat, by have := hek.d0; omega⟩
     have hsS : sn < S := by have := hek.s1; have := HSS.out; omega
     have hdS : dn < S := by have := hek.d1; have := HSS.out; omega
     obtain ⟨lb, hlb⟩ : ∃ lb, lb = e.lab := ⟨_, rfl⟩
     rw [← hsn] at e1
     rw [← hdn] at e3
     rw [← hlb] at e2
     obtain ⟨WA, hWA⟩ : ∃ WA, WA = wB.alloc (.cells #[.int .i64 sn, .int .i64 lb, .int .i64 dn] 59) := ⟨_, rfl⟩
     obtain ⟨eb, heb⟩ : ∃ eb, eb = wB.heap.size := ⟨_, rfl⟩
     have hbA : Below wB.heap.size wB WA := by rw [hWA]; exact (Below.refl _ _).alloc (Nat.le_refl _) _
     have hX : Blk WA eb [.int .i64 sn, .int .i64 lb, .int .i64 dn] 59 := by rw [hWA, heb]; exact Blk.new wB _ _
     have HBA := Lib.hid (HBL.out.trans (hbA.mono HBL.out.size))
     have HX := Lib.hid hX
     have HOA := Lib.hid (owns_below HOB.out hbA)
     have HEBN : Hid (eb ≠ w.heap.size) := by unfold Hid; omega
     have hgA : w.heap.size < WA.heap.size := by have := hbA.size; omega
     have HSN := Lib.hid hsn
     have HDN := Lib.hid hdn
     have HLB := Lib.hid hlb
     have HWA := Lib.hid hWA
     have HEB := Lib.hid heb
     obtain ⟨m, hm⟩ : ∃ m : Nat, m = sn * P := ⟨_, rfl⟩
     have hmi : (sn : Int) * (P : Int) = (m : Int) := by rw [hm]; simp
     have HM := Lib.hid hm
     clear hbl hee hek hem hsn hdn hlb hWA heb hbA hX hm
     go_wp2
     rw [← HWA.out]
     try rw [← HEB.out]
     go_loopw [6, 9] (fun v6 v9 wr => ∃ (q : Nat) (cC : List Bool) (b : Bool), v6 = .bool b ∧ v9 = .int .i64 q ∧ q ≤ P ∧ More c cC b ∧ LvSound t p cC ∧ (b = false → (∀ j (h : j < t.edges.length), j < i → calmAt t p cC t.edges[j] P) ∧ calmAt t p cC e q) ∧ Below w.heap.size w wr ∧ w.heap.size < wr.heap.size ∧ wr.ownsRow w.heap.size 4 1 (.slice (some ⟨w.heap.size, 0, none⟩) N N) N (cC.map Value.bool) ∧ Blk wr eb [.int .i64 sn, .int .i64 lb, .int .i64 dn] 59) (fun _ v9 _ => P - (intOf v9).toNat)
     case atStart => exact ⟨0, cB, b, rfl, rfl, Nat.zero_le _, HMO.out, HSO.out, (fun h => ⟨HCALM.out h, fun _ h => absurd h (Nat.not_lt_zero _)⟩), HBA.out, hgA, HOA.out, HX.out⟩
     case round =>
      clear HBA hgA HOA HX HMO HSO HCALM
      obtain ⟨q, cC, b2, rfl, rfl, hqP, hmc, hsc, hcc, hbc, hgc, hoc, hxc⟩ := hrel
      obtain ⟨wC, rfl⟩ : ∃ wC : World, wC = wr := ⟨_, rfl⟩
      have HMC := Lib.hid hmc
      have HSC := Lib.hid hsc
      have HCC := Lib.hid hcc
      have HBC := Lib.hid hbc
      have HOC := Lib.hid hoc
      have HXC := Lib.hid hxc
      have HCL : Hid (cC.length = N) := by unfold Hid; rw [hmc.1]; exact HCLN.out
      have b0 := keeps hbc hbp HB0.out
      have hbpC : bp < wC.heap.size := Nat.lt_of_lt_of_le hbp hbc.size
      have lb0 := later_cell hbpC b0
      have lx0 := later_cell hxc.lt (hxc.cell 0 rfl)
      clear hmc hsc hcc hbc hoc hxc
      by_cases hq : q < P
      ·have hmq : m + q < N := by rw [HM.out, HNN.out]; exact pair_lt hsS hq
       have hqp : (q : Int) < p.states := by rw [← HPP.out]; omega
       have HIX : Hid (idx p e.src q = m + q) := by unfold Hid; rw [← HSN.out, idx_nat HPP.out, HM.out]
       go_wp2
       refine wp_region_later (by kernel_rfl) (by kernel_rfl) ?_
       repeat (go_big_quiet_step ((fail)))
       refine wpQuiet_nil ?_
       intro _ hw9
       obtain ⟨nl, hw8⟩ := hw9
       subst hw8
       obtain ⟨w6, hw6⟩ : ∃ w6, w6 = nl.w := ⟨_, rfl⟩
       have hb6 : Below wC.heap.size wC w6 := by rw [hw6]; exact nl.h
       rw [← hw6]
       have HB6 := Lib.hid (HBC.out.trans (hb6.mono HBC.out.size))
       have ho6 := owns_below HOC.out hb6
       have HX6 := Lib.hid (HXC.out.below hb6)
       have hg6 : w.heap.size < w6.heap.size := by have := hb6.size; omega
       have c1 := cell_bool ho6 hmq
       have HOO := Lib.hid ho6
       clear lb0 lx0 b0 hb6 hw6 nl ho6
       cases hcg : cC.getD (m + q) false
       ·rw [hcg] at c1
        have HCG := Lib.hid hcg
        have hxl := HX6.out.lt
        have HTO := Lib.hid (l30To_any bt bp eb 0 lo t p e q w6 VP.out.edge HEK.out (HT.out.below HB6.out) (HP.out.below HB6.out) hxl ⟨by rw [HX6.out.cell 0 rfl, HSN.out], by rw [HX6.out.cell 1 rfl, HLB.out], by rw [HX6.out.cell 2 rfl, HDN.out]⟩)
        have hzr := toState_range (t := t) VP.out e (q := (q : Int)) (by omega) hqp
        obtain ⟨z, hz⟩ : ∃ z, z = toState t p e q := ⟨_, rfl⟩
        rw [← hz] at HTO hzr
        have HZ := Lib.hid hz
        rw [← HPP.out] at hzr
        clear hcg hz hxl
        go_wp2_with fail
        refine HTO.out.mono ?_
        rintro r w7 ⟨rfl, hb7⟩
        have HB7 := Lib.hid (HB6.out.trans (hb7.mono HB6.out.size))
        have HO6 := Lib.hid (owns_below HOO.out hb7)
        have hx7 := HX6.out.below hb7
        have HX7 := Lib.hid hx7
        have hg7 : w.heap.size < w7.heap.size := by have := hb7.size; omega
        have lb2 := later_cell (Nat.lt_of_lt_of_le hbp HB7.out.size) (keeps HB7.out hbp HB0.out)
        have lx2 := later_cell hx7.lt (hx7.cell 2 rfl)
        clear hb7 hx7 c1 HTO
        by_cases hneg : z < 0
        ·have HLV : Hid (lvB t p cC e q = true) := by unfold Hid lvB; rw [← HZ.out, decide_eq_true hneg]; rfl
         go_wp2
         refine wp_region_later (by kernel_rfl) (by kernel_rfl) ?_
         repeat (go_big_quiet_step ((fail)))
         refine wpQuiet_nil ?_
         intro _ hw9
         obtain ⟨nl, hw8⟩ := hw9
         subst hw8
         have HI8 : Hid (More c (cC.set (m + q) true) true ∧ LvSound t p (cC.set (m + q) true)) := ⟨HMC.out.set (by rw [HCL.out]; exact hmq) HCG.out, by have h := HSC.out.set VT.out VP.out HEM.out hqp HLV.out; rw [HIX.out] at h; exact h⟩
         have ho8 := owns_below HO6.out nl.h
         obtain ⟨w8, hw8⟩ : ∃ w8, w8 = nl.w := ⟨_, rfl⟩
         have hb8 : Below w7.heap.size w7 w8 := by rw [hw8]; exact nl.h
         rw [← hw8] at ho8 ⊢
         have c8 := cell_bool ho8 hmq
         have f8 := ho8.frozenAt (m + q)
         have HO9 := Lib.hid (ho8.stored (m + q) (.bool true)).1
         have HB8 := Lib.hid (HB7.out.trans (hb8.mono HB7.out.size))
         have HX8 := Lib.hid (HX7.out.below hb8)
         have hg8 : w.heap.size < w8.heap.size := by have := hb8.size; omega
         clear lb2 lx2 hb8 hw8 nl ho8
         go_wp2
         go_roundw
         case rel => exact ⟨q + 1, cC.set (m + q) true, true, rfl, by go_num, by omega, HI8.out.1, HI8.out.2, (fun h => by cases h), HB8.out.setCell (Nat.le_refl _) _, by simpa using hg8, by rw [List.map_set]; exact HO9.out, HX8.out.setOther _ _ HEBN.out⟩
         case measure => simp [intOf]; omega
        ·obtain ⟨zn, hzn⟩ : ∃ zn : Nat, (zn : Int) = z := ⟨z.toNat, by omega⟩
         have hlv : lvB t p cC e q = cC.getD (dn * P + zn) false := by
          unfold lvB
          rw [← HZ.out, decide_eq_false hneg, Bool.false_or, ← HDN.out, ← hzn, idx_nat HPP.out]
         subst hzn
         have hzd : decide ((zn : Int) < 0) = false := decide_eq_false hneg
         obtain ⟨m2, hm2⟩ : ∃ m2 : Nat, m2 = dn * P := ⟨_, rfl⟩
         have hm2i : (dn : Int) * (P : Int) = (m2 : Int) := by rw [hm2]; simp
         have hlt2 : m2 + zn < N := by rw [hm2, HNN.out]; exact pair_lt hdS (by omega)
         rw [← hm2] at hlv
         have c2 := later_cell hg7 (cell_bool HO6.out hlt2)
         have HM2 := Lib.hid hm2
         clear hm2
         cases hbb : cC.getD (m2 + zn) false
         ·rw [hbb] at c2 hlv
          have HLV : Hid (lvB t p cC e q = false) := hlv
          clear hbb hlv
          go_wp2
          refine wp_region_later (by kernel_rfl) (by kernel_rfl) ?_
          repeat (go_big_quiet_step ((fail)))
          refine wpQuiet_nil ?_
          intro _ hw9
          obtain ⟨nl, hw8⟩ := hw9
          subst hw8
          have HBN := Lib.hid (HB7.out.trans (nl.h.mono HB7.out.size))
          have HON := Lib.hid (owns_below HO6.out nl.h)
          have HXN := Lib.hid (HX7.out.below nl.h)
          have hgN : w.heap.size < nl.w.heap.size := by have := nl.h.size; omega
          clear lb2 lx2 c2 hzd
          go_wp2
          go_roundw
          case rel => exact ⟨q + 1, cC, b2, rfl, by go_num, by omega, HMC.out, HSC.out, (fun h => ⟨(HCC.out h).1, fun q' hq' hl => by
           by_cases e9 : q' = q
           ·subst e9; rw [HLV.out] at hl; cases hl
           ·exact (HCC.out h).2 q' (by omega) hl⟩), HBN.out, hgN, HON.out, HXN.out⟩
          case measure => simp [intOf]; omega
         ·rw [hbb] at c2 hlv
          have HLV : Hid (lvB t p cC e q = true) := hlv
          clear hbb hlv
          go_wp2
          refine wp_region_later (by kernel_rfl) (by kernel_rfl) ?_
          repeat (go_big_quiet_step ((fail)))
          refine wpQuiet_nil ?_
          intro _ hw9
          obtain ⟨nl, hw8⟩ := hw9
          subst hw8
          have HI8 : Hid (More c (cC.set (m + q) true) true ∧ LvSound t p (cC.set (m + q) true)) := ⟨HMC.out.set (by rw [HCL.out]; exact hmq) HCG.out, by have h := HSC.out.set VT.out VP.out HEM.out hqp HLV.out; rw [HIX.out] at h; exact h⟩
          have ho8 := owns_below HO6.out nl.h
          obtain ⟨w8, hw8⟩ : ∃ w8, w8 = nl.w := ⟨_, rfl⟩
          have hb8 : Below w7.heap.size w7 w8 := by rw [hw8]; exact nl.h
          rw [← hw8] at ho8 ⊢
          have c8 := cell_bool ho8 hmq
          have f8 := ho8.frozenAt (m + q)
          have HO9 := Lib.hid (ho8.stored (m + q) (.bool true)).1
          have HB8 := Lib.hid (HB7.out.trans (hb8.mono HB7.out.size))
          have HX8 := Lib.hid (HX7.out.below hb8)
          have hg8 : w.heap.size < w8.heap.size := by have := hb8.size; omega
          clear lb2 lx2 c2 hzd hb8 hw8 nl ho8
          go_wp2
          go_roundw
          case rel => exact ⟨q + 1, cC.set (m + q) true, true, rfl, by go_num, by omega, HI8.out.1, HI8.out.2, (fun h => by cases h), HB8.out.setCell (Nat.le_refl _) _, by simpa using hg8, by rw [List.map_set]; exact HO9.out, HX8.out.setOther _ _ HEBN.out⟩
          case measure => simp [intOf]; omega
       ·rw [hcg] at c1
        have HCG := Lib.hid hcg
        clear hcg
        go_wp2
        go_roundw
        case rel => exact ⟨q + 1, cC, b2, rfl, by go_num, by omega, HMC.out, HSC.out, (fun h => ⟨(HCC.out h).1, fun q' hq' hl => by
         by_cases e9 : q' = q
         ·subst e9; rw [HIX.out]; exact HCG.out
         ·exact (HCC.out h).2 q' (by omega) hl⟩), HB6.out, hg6, HOO.out, HX6.out⟩
        case measure => simp [intOf]; omega
      ·obtain rfl : q = P := by omega
       clear lb0 lx0
       go_wp2
       go_roundw
       case rel => exact ⟨i + 1, cC, b2, rfl, by go_num, by omega, HMC.out, HSC.out, (fun h j hj hji => by
        by_cases e9 : j = i
        ·subst e9; rw [← HEE.out]; exact (HCC.out h).2
        ·exact (HCC.out h).1 j hj (by omega)), HBC.out, hgc, HOC.out⟩
       case measure => simp [intOf]; omega
    ·obtain rfl : i = EN := by omega
     clear hbl
     go_wp2
     go_roundg (2 * cB.count false + b.toNat)
     case measure =>
      have h1 := HR.out.left
      rcases HMO.out.2 with ⟨rfl, h2⟩ | ⟨rfl, h2⟩
      ·simp only [Bool.toNat_true] at *; omega
      ·rw [h2]; simp only [Bool.toNat_true, Bool.toNat_false] at *; omega
     case rel =>
      exact ⟨cB, b, rfl, by rw [HMO.out.1]; exact HCLN.out, HSO.out, (fun h e he q hq hl => by
       obtain ⟨j, hj, rfl⟩ := List.mem_iff_getElem.1 he
       exact HCALM.out h j hj (by rw [HEN.out]; exact hj) q (by have := HPP.out; omega) hl), Nat.le_refl _, HBL.out, hgr, HOB.out⟩

end Go.Proofs.YtmeibnhhlknbfaaGreatDoor
