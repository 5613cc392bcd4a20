/-
  The reference's drawer that spoils a system a little.
  The reference's drawer of a system, mostly a valid one.
-/
import Derived.Test.YtifoinannefcpaaGreatDoorA10
import Derived.Deep.RegionLaw
import Derived.Deep.RegionHeld3
namespace Go.Proofs.YtifoinannefcpaaGreatDoor
open Go Go.RowKit


/-- A drawn system that may be spoilt: its lists are short. -/
structure LooseG (F M : Nat) (t : Lts) : Prop where
 few : t.labels.length ≤ F
 short : ∀ l ∈ t.labels, l.size ≤ 6
 most : t.edges.length ≤ M
abbrev LooseOk (t : Lts) : Prop := LooseG 10 200 t
def RetLoG (F M sb m : Nat) (w : World) (e : Ending) (w' : World) : Prop :=
 ∃ (t : Lts) (lv ev : Value), e = .returned (.agg #[.int .i64 t.states, .int .i64 t.initial, lv, ev]) ∧ Drew sb m w w' ∧ OwnLts w.heap.size w' lv ev t ∧ LooseG F M t
abbrev RetLo (sb m : Nat) (w : World) (e : Ending) (w' : World) : Prop := RetLoG 10 200 sb m w e w'
theorem DrawnOk.loose {M : Nat} {t : Lts} (h : DrawnOk M t) (hM : M ≤ 190) : LooseOk t := ⟨by have := h.few; omega, fun l hl => nm_short l (h.names l hl), by have := h.most; omega⟩
/-- What may be spoilt. -/
structure BendIn (F M : Nat) (t : Lts) : Prop where
 st : 1 ≤ t.states ∧ t.states ≤ 40
 pos : 0 < t.labels.length
 few : t.labels.length ≤ F
 short : ∀ l ∈ t.labels, l.size ≤ 6
 most : t.edges.length ≤ M
theorem BendIn.loose {F M : Nat} {t : Lts} (h : BendIn F M t) : LooseG (F + 1) (M + 1) t := ⟨by have := h.few; omega, h.short, by have := h.most; omega⟩
/-- What stands while a copy is spoilt: the copy, its block, the result's block. -/
structure BEnv (sb m rb ob : Nat) (t : Lts) (lv ev : Value) (w0 w : World) : Prop where
 drew : Drew sb m w0 w
 sbl : sb < w0.heap.size
 own : OwnLts w0.heap.size w lv ev t
 obox : Blk w ob [.int .i64 t.states, .int .i64 t.initial, lv, ev] 27
 rbox : Blk w rb [.int .i64 0, .int .i64 0, .slice none 0 0, .slice none 0 0] 27
 rbl : w0.heap.size ≤ rb
 obl : w0.heap.size ≤ ob
 ne : ob ≠ rb
section
variable {sb m rb ob : Nat} {t : Lts} {lv ev : Value} {w0 w w' : World}
theorem BEnv.then {m' : Nat} (h : BEnv sb m rb ob t lv ev w0 w) (hd : Drew sb m' w w') : BEnv sb m' rb ob t lv ev w0 w' :=
 ⟨h.drew.trans hd, h.sbl, ⟨hd.own h.own.1 h.sbl, hd.own h.own.2 h.sbl⟩, hd.blk h.obox (by have := h.obl; have := h.sbl; omega), hd.blk h.rbox (by have := h.rbl; have := h.sbl; omega), h.rbl, h.obl, h.ne⟩
theorem BEnv.below (h : BEnv sb m rb ob t lv ev w0 w) (hb : Below w.heap.size w w') : BEnv sb m rb ob t lv ev w0 w' :=
 ⟨h.drew.below hb, h.sbl, h.own.below hb, h.obox.below hb, h.rbox.below hb, h.rbl, h.obl, h.ne⟩
theorem BEnv.mono {m' : Nat} (h : BEnv sb m rb ob t lv ev w0 w) (hm : m ≤ m') : BEnv sb m' rb ob t lv ev w0 w := ⟨h.drew.mono hm, h.sbl, h.own, h.obox, h.rbox, h.rbl, h.obl, h.ne⟩
theorem BEnv.field (h : BEnv sb m rb ob t lv ev w0 w) (i : Nat) (u : Value) {t' : Lts} {lv' ev' : Value} (hset : ([.int .i64 t.states, .int .i64 t.initial, lv, ev] : List Value).set i u = [.int .i64 t'.states, .int .i64 t'.initial, lv', ev']) (ho : OwnLts w0.heap.size w lv' ev' t') : BEnv sb m rb ob t' lv' ev' w0 (w.setCell ⟨ob, i, none⟩ u) :=
 have hg := grown_setCell w ⟨ob, i, none⟩ u
 ⟨h.drew.grown hg (fun j e => by cases e; exact h.obl) h.sbl, h.sbl, ⟨own_putD ho.1 h.obox (by decide) i u, own_putD ho.2 h.obox (by decide) i u⟩, by rw [← hset]; exact h.obox.set i u, blk_putD h.rbox i u (fun e => h.ne e.symm), h.rbl, h.obl, h.ne⟩
theorem BEnv.fin (h : BEnv sb m rb ob t lv ev w0 w) {F M : Nat} (hl : LooseG F M t) {e : Ending} (he : e = .returned (.agg #[.int .i64 t.states, .int .i64 t.initial, lv, ev])) {v0 v1 v2 v3 : Value} : RetLoG F M sb m w0 e ((((w.setCell ⟨rb, 0, none⟩ v0).setCell ⟨rb, 1, none⟩ v1).setCell ⟨rb, 2, none⟩ v2).setCell ⟨rb, 3, none⟩ v3) :=
 ⟨t, lv, ev, he, drew_put4 h.drew h.rbl h.sbl, ⟨own_put4D h.rbox h.own.1 (by decide), own_put4D h.rbox h.own.2 (by decide)⟩, hl⟩
end
theorem own_frozenD {w : World} {base e sz n g c : Nat} {xs : List Value} (h : w.ownsRow base e sz (.slice (some ⟨g, 0, none⟩) n c) n xs) (k : Nat) : w.frozen? ⟨g, k, none⟩ = false := by
 rcases h.2 with ⟨h0, -⟩ | ⟨g', cap, cur, hv, hb, hg, hn, hm, hs, ht⟩
 ·cases h0
 ·simp only [Value.slice.injEq, Option.some.injEq, Addr.mk.injEq, and_true, true_and] at hv
  obtain ⟨rfl, rfl⟩ := hv
  exact frozen_of_row w g k cur e hg
theorem own_setD {w : World} {base e sz n g c : Nat} {xs : List Value} (h : w.ownsRow base e sz (.slice (some ⟨g, 0, none⟩) n c) n xs) (k : Nat) (u : Value) : (w.setCell ⟨g, k, none⟩ u).ownsRow base e sz (.slice (some ⟨g, 0, none⟩) n c) n (xs.set k u) := by
 rcases h.2 with ⟨h0, -⟩ | ⟨g', cap, cur, hv, hb, hg, hn, hm, hs, ht⟩
 ·cases h0
 ·simp only [Value.slice.injEq, Option.some.injEq, Addr.mk.injEq, and_true, true_and] at hv
  obtain ⟨rfl, rfl⟩ := hv
  refine ⟨by rw [List.length_set]; exact h.1, .inr ⟨g, c, cur.setIfInBounds k u, rfl, hb, ?_, hn, hm, by simpa using hs, ?_⟩⟩
  ·have hb2 : Blk w g cur.toList e := by unfold Blk; simpa using hg
   have h2 := hb2.set k u
   unfold Blk at h2
   rw [h2]
   congr 2
   apply Array.toList_inj.1
   simp
  ·rw [Array.toList_setIfInBounds, List.take_set, ht]
theorem BEnv.label {sb m rb ob : Nat} {t : Lts} {ev : Value} {w0 w : World} {g c : Nat} (h : BEnv sb m rb ob t (.slice (some ⟨g, 0, none⟩) t.labels.length c) ev w0 w) (k : Nat) (x : ByteArray) : BEnv sb m rb ob ⟨t.states, t.initial, t.labels.set k x, t.edges⟩ (.slice (some ⟨g, 0, none⟩) t.labels.length c) ev w0 (w.setCell ⟨g, k, none⟩ (.string x)) := by
 have hg := grown_setCell w ⟨g, k, none⟩ (.string x)
 have hgl := (h.own.1.lt g rfl).1
 refine ⟨h.drew.grown hg (fun j e => by cases e; exact hgl) h.sbl, h.sbl, ⟨?_, h.own.2.kept hg (own_types h.own.2 h.own.1 (by decide))⟩, ?_, ?_, h.rbl, h.obl, h.ne⟩
 ·have h1 := own_setD h.own.1 k (.string x)
  have h2 : (t.labels.set k x).length = t.labels.length := List.length_set
  show (w.setCell ⟨g, k, none⟩ (.string x)).ownsRow w0.heap.size 9 1 (.slice (some ⟨g, 0, none⟩) t.labels.length c) (t.labels.set k x).length ((t.labels.set k x).map .string)
  rw [h2, List.map_set]
  exact h1
 ·exact blk_putD h.obox k _ (fun e => blk_own_neL h.obox h.own.1 (by decide) (by rw [e]; rfl))
 ·exact blk_putD h.rbox k _ (fun e => blk_own_neL h.rbox h.own.1 (by decide) (by rw [e]; rfl))
/-- One edge more behind the copy's own. -/
theorem BEnv.push {sb m rb ob : Nat} {t : Lts} {lv ev v' : Value} {w0 w w' : World} (h : BEnv sb m rb ob t lv ev w0 w) {x : Edge} (hg : w.grownBy w' ev.ownBlock) (ho : w'.ownsRow w0.heap.size 62 3 v' (t.edges.length + 1) (t.edges.flatMap encE ++ encE x)) :
  Drew sb m w0 w' ∧ OwnLts w0.heap.size w' lv v' ⟨t.states, t.initial, t.labels, t.edges ++ [x]⟩ ∧ Blk w' ob [.int .i64 t.states, .int .i64 t.initial, lv, ev] 27 ∧ Blk w' rb [.int .i64 0, .int .i64 0, .slice none 0 0, .slice none 0 0] 27 := by
 refine ⟨h.drew.grown hg (fun j e => (h.own.2.lt j e).1) h.sbl, ⟨h.own.1.kept hg (own_types h.own.1 h.own.2 (by decide)), ?_⟩, blk_kept h.obox h.own.2 hg (by decide), blk_kept h.rbox h.own.2 hg (by decide)⟩
 show w'.ownsRow w0.heap.size 62 3 v' (t.edges ++ [x]).length ((t.edges ++ [x]).flatMap encE)
 rw [List.length_append, flat_push]
 exact ho
theorem BEnv.pushed {sb m rb ob : Nat} {t : Lts} {lv ev v' : Value} {w0 w w' : World} (h : BEnv sb m rb ob t lv ev w0 w) {x : Edge} (hg : w.grownBy w' ev.ownBlock) (ho : w'.ownsRow w0.heap.size 62 3 v' (t.edges.length + 1) (t.edges.flatMap encE ++ encE x)) :
  BEnv sb m rb ob ⟨t.states, t.initial, t.labels, t.edges ++ [x]⟩ lv v' w0 (w'.setCell ⟨ob, 3, none⟩ v') := by
 obtain ⟨p1, p2, p3, p4⟩ := h.push (x := x) hg ho
 exact ⟨p1.grown (grown_setCell w' ⟨ob, 3, none⟩ v') (fun j e => by cases e; exact h.obl) h.sbl, h.sbl, ⟨own_putD p2.1 p3 (by decide) 3 v', own_putD p2.2 p3 (by decide) 3 v'⟩, p3.set 3 v', blk_putD p4 3 v' (fun e => h.ne e.symm), h.rbl, h.obl, h.ne⟩
theorem flat_set_lab : ∀ (E : List Edge) (k : Nat) (h : k < E.length) (y : Int), (E.flatMap encE).set (k * 3 + 1) (.int .i64 y) = (E.set k ⟨E[k].src, y, E[k].dst⟩).flatMap encE
 | [], _, h, _ => absurd h (Nat.not_lt_zero _)
 | _ :: _, 0, _, _ => rfl
 | x :: E, k + 1, h, y => by
  have ih := flat_set_lab E k (by simpa using h) y
  rw [show (k + 1) * 3 + 1 = (k * 3 + 1) + 3 by omega]
  simp only [List.flatMap_cons, encE, List.cons_append, List.nil_append, List.set_cons_succ, List.getElem_cons_succ]
  exact congrArg _ (congrArg _ (congrArg _ ih))
theorem flat_set_dst : ∀ (E : List Edge) (k : Nat) (h : k < E.length) (y : Int), (E.flatMap encE).set (k * 3 + 2) (.int .i64 y) = (E.set k ⟨E[k].src, E[k].lab, y⟩).flatMap encE
 | [], _, h, _ => absurd h (Nat.not_lt_zero _)
 | _ :: _, 0, _, _ => rfl
 | x :: E, k + 1, h, y => by
  have ih := flat_set_dst E k (by simpa using h) y
  rw [show (k + 1) * 3 + 2 = (k * 3 + 2) + 3 by omega]
  simp only [List.flatMap_cons, encE, List.cons_append, List.nil_append, List.set_cons_succ, List.getElem_cons_succ]
  exact congrArg _ (congrArg _ (congrArg _ ih))
theorem BEnv.edge {sb m rb ob : Nat} {t : Lts} {lv : Value} {w0 w : World} {g c : Nat} (h : BEnv sb m rb ob t lv (.slice (some ⟨g, 0, none⟩) t.edges.length c) w0 w) (k : Nat) (u : Value) {E : List Edge} (hlen : E.length = t.edges.length) (hE : (t.edges.flatMap encE).set k u = E.flatMap encE) : BEnv sb m rb ob ⟨t.states, t.initial, t.labels, E⟩ lv (.slice (some ⟨g, 0, none⟩) t.edges.length c) w0 (w.setCell ⟨g, k, none⟩ u) := by
 have hg := grown_setCell w ⟨g, k, none⟩ u
 have hgl := (h.own.2.lt g rfl).1
 refine ⟨h.drew.grown hg (fun j e => by cases e; exact hgl) h.sbl, h.sbl, ⟨h.own.1.kept hg (own_types h.own.1 h.own.2 (by decide)), ?_⟩, ?_, ?_, h.rbl, h.obl, h.ne⟩
 ·have h1 := own_setD h.own.2 k u
  show (w.setCell ⟨g, k, none⟩ u).ownsRow w0.heap.size 62 3 (.slice (some ⟨g, 0, none⟩) t.edges.length c) E.length (E.flatMap encE)
  rw [hlen, ← hE]
  exact h1
 ·exact blk_putD h.obox k _ (fun e => blk_own_neL h.obox h.own.2 (by decide) (by rw [e]; rfl))
 ·exact blk_putD h.rbox k _ (fun e => blk_own_neL h.rbox h.own.2 (by decide) (by rw [e]; rfl))
/-- One text more behind the copy's own. -/
theorem BEnv.pushL {sb m rb ob : Nat} {t : Lts} {lv ev v' : Value} {w0 w w' : World} (h : BEnv sb m rb ob t lv ev w0 w) {x : ByteArray} (hg : w.grownBy w' lv.ownBlock) (ho : w'.ownsRow w0.heap.size 9 1 v' (t.labels.length + 1) (t.labels.map .string ++ [.string x])) :
  Drew sb m w0 w' ∧ OwnLts w0.heap.size w' v' ev ⟨t.states, t.initial, t.labels ++ [x], t.edges⟩ ∧ Blk w' ob [.int .i64 t.states, .int .i64 t.initial, lv, ev] 27 ∧ Blk w' rb [.int .i64 0, .int .i64 0, .slice none 0 0, .slice none 0 0] 27 := by
 refine ⟨h.drew.grown hg (fun j e => (h.own.1.lt j e).1) h.sbl, ⟨?_, h.own.2.kept hg (own_types h.own.2 h.own.1 (by decide))⟩, blk_kept h.obox h.own.1 hg (by decide), blk_kept h.rbox h.own.1 hg (by decide)⟩
 show w'.ownsRow w0.heap.size 9 1 v' (t.labels ++ [x]).length ((t.labels ++ [x]).map .string)
 rw [List.length_append, List.map_append]
 exact ho
theorem BEnv.pushedL {sb m rb ob : Nat} {t : Lts} {lv ev v' : Value} {w0 w w' : World} (h : BEnv sb m rb ob t lv ev w0 w) {x : ByteArray} (hg : w.grownBy w' lv.ownBlock) (ho : w'.ownsRow w0.heap.size 9 1 v' (t.labels.length + 1) (t.labels.map .string ++ [.string x])) :
  BEnv sb m rb ob ⟨t.states, t.initial, t.labels ++ [x], t.edges⟩ v' ev w0 (w'.setCell ⟨ob, 2, none⟩ v') := by
 obtain ⟨p1, p2, p3, p4⟩ := h.pushL (x := x) hg ho
 exact ⟨p1.grown (grown_setCell w' ⟨ob, 2, none⟩ v') (fun j e => by cases e; exact h.obl) h.sbl, h.sbl, ⟨own_putD p2.1 p3 (by decide) 2 v', own_putD p2.2 p3 (by decide) 2 v'⟩, p3.set 2 v', blk_putD p4 2 v' (fun e => h.ne e.symm), h.rbl, h.obl, h.ne⟩
theorem bend_row {sb m rb ob : Nat} {t : Lts} {lv : Value} {w0 w : World} {g c : Nat} (h : BEnv sb m rb ob t lv (.slice (some ⟨g, 0, none⟩) t.edges.length c) w0 w) {k : Nat} (hk : k < t.edges.length) : w.cell? ⟨g, k * 3, none⟩ = some (.int .i64 t.edges[k].src) ∧ w.cell? ⟨g, k * 3 + 1, none⟩ = some (.int .i64 t.edges[k].lab) ∧ w.cell? ⟨g, k * 3 + 2, none⟩ = some (.int .i64 t.edges[k].dst) := by
 obtain ⟨xa, xc, hxe, -, -, hrow⟩ := SliceK.of_owns (e := 62) encE_len rfl h.own.2
 simp only [Value.slice.injEq, true_and] at hxe
 obtain ⟨rfl, rfl⟩ := hxe
 obtain ⟨be, oe, hxa, -, hbe, e1, e2, e3⟩ := hrow.edge hk
 simp only [Option.some.injEq, Addr.mk.injEq, and_true] at hxa
 obtain ⟨rfl, rfl⟩ := hxa
 simp only [Nat.zero_add] at e1 e2 e3
 exact ⟨e1, e2, e3⟩
def bendX : List ByteArray := [⟨#[116, 97, 117]⟩, ⟨#[97]⟩, ⟨#[122, 122]⟩, ⟨#[65]⟩, ⟨#[]⟩]
theorem bendX_short : ∀ l ∈ bendX, l.size ≤ 6 := by decide
theorem lbend_results {w : World} {b : Nat} {v0 v1 v2 v3 : Value} {tmps : Array Value} (hc : tmps.getD 4 undef = .pointer (some ⟨b, 0, none⟩)) (hb : Blk w b [v0, v1, v2, v3] 27) :
  (results Tryz.f57 tmps).run Tryz.prog w = .ok (.agg #[v0, v1, v2, v3]) w := by
 have h0 := hb.cell 0 rfl
 have h1 := hb.cell 1 rfl
 have h2 := hb.cell 2 rfl
 have h3 := hb.cell 3 rfl
 simp only [Array.getD_eq_getD_getElem?] at hc
 simp [results, Tryz.results57, go_sem, hc, h0, h1, h2, h3, Result.andThen]

set_option maxRecDepth 100000 in
set_option maxHeartbeats 4000000 in
theorem bend_gen (sb n lo F M : Nat) (t : Lts) (lv ev : Value) (w : World) (hs : Src sb n w) (hn : n ≤ 999000000) (hd : BendIn F M t) (hF : F ≤ 12) (hM : M ≤ 400) (hl : SliceK 1 encS lo w lv t.labels) (he : SliceK 3 encE lo w ev t.edges) :
  Calls Tryz.prog 57 #[.pointer (some ⟨sb, 0, none⟩), .agg #[.int .i64 t.states, .int .i64 t.initial, lv, ev]] w (RetLoG (F + 1) (M + 1) sb (n + 20) w) := by
 have hsb := hs.lt
 obtain ⟨tb, htb⟩ : ∃ tb, tb = w.heap.size := ⟨_, rfl⟩
 obtain ⟨rb, hrb⟩ : ∃ rb, rb = w.heap.size + 1 := ⟨_, rfl⟩
 obtain ⟨W, hW⟩ : ∃ W, W = (w.alloc (.cells #[.int .i64 t.states, .int .i64 t.initial, lv, ev] 27)).alloc (.cells #[.int .i64 0, .int .i64 0, .slice none 0 0, .slice none 0 0] 27) := ⟨_, rfl⟩
 have hb : Below w.heap.size w W := by rw [hW]; exact ((Below.refl _ _).alloc (Nat.le_refl _) _).alloc (by simp) _
 have hT : Blk W tb [.int .i64 t.states, .int .i64 t.initial, lv, ev] 27 := by rw [hW, htb]; exact (Blk.new w _ _).alloc _
 have hR : Blk W rb [.int .i64 0, .int .i64 0, .slice none 0 0, .slice none 0 0] 27 := by
  have := Blk.new (w.alloc (.cells #[.int .i64 t.states, .int .i64 t.initial, lv, ev] 27)) [.int .i64 0, .int .i64 0, .slice none 0 0, .slice none 0 0] 27
  rw [World.size_alloc, ← hrb] at this
  rw [hW]
  exact this
 have HOW := Lib.hid (l11Own_any tb lo t W (by have := hd.few; omega) (by have := hd.most; omega) ⟨_, _, hT.lt, hT.cell 0 rfl, hT.cell 1 rfl, hT.cell 2 rfl, hT.cell 3 rfl, hl.below hb, he.below hb⟩)
 have HS := Lib.hid (hs.below hb)
 have HD0 := Lib.hid ((Drew.refl hs).below hb)
 have HR := Lib.hid hR
 have HDR := Lib.hid hd
 have HW := Lib.hid hW
 have HTB := Lib.hid htb
 have HRB := Lib.hid hrb
 have hsW : w.heap.size ≤ W.heap.size := hb.size
 have hrbl : w.heap.size ≤ rb := by omega
 clear hs hd hl he hW hb hT hR htb hrb
 go_enter Tryz.func57, Tryz.ntmps57
 go_wp2_with fail
 rw [← HW.out]
 rw [← HRB.out]
 rw [← HTB.out]
 refine Calls.mono HOW.out ?_
 rintro e w1 ⟨lv1, ev1, rfl, hb1, hown⟩
 obtain ⟨la, lc, rfl, -, -⟩ := owns_slice hown.1
 obtain ⟨ea, ec, rfl, -, -⟩ := owns_slice hown.2
 obtain ⟨ob, hob⟩ : ∃ ob, ob = w1.heap.size := ⟨_, rfl⟩
 obtain ⟨W2, hW2⟩ : ∃ W2, W2 = w1.alloc (.cells #[.int .i64 t.states, .int .i64 t.initial, .slice la t.labels.length lc, .slice ea t.edges.length ec] 27) := ⟨_, rfl⟩
 have hb2 : Below w1.heap.size w1 W2 := by rw [hW2]; exact (Below.refl _ _).alloc (Nat.le_refl _) _
 have HE2 : Hid (BEnv sb n rb ob t (.slice la t.labels.length lc) (.slice ea t.edges.length ec) w W2) := by
  have hr1 := (HR.out.below hb1).lt
  refine ⟨(HD0.out.below hb1).below hb2, hsb, (hown.lower hsW).below hb2, ?_, (HR.out.below hb1).below hb2, hrbl, by have := hb1.size; omega, by omega⟩
  rw [hW2, hob]
  exact Blk.new _ _ _
 have HON := Lib.hid (one_any sb n 8 W2 HE2.out.drew.2 (by omega) (by decide))
 have HW2 := Lib.hid hW2
 have HOB := Lib.hid hob
 clear hb1 hown hW2 hb2 hob HOW HD0 HR
 go_wp2_with fail
 rw [← HW2.out]
 try rw [← HOB.out]
 refine Calls.mono HON.out ?_
 rintro e w3 ⟨b, rfl, hd3⟩
 have HE3 := Lib.hid (HE2.out.then hd3)
 clear hd3 HON HE2
 cases b
 ·have o0 := HE3.out.obox.cell 0 rfl
  have o1 := HE3.out.obox.cell 1 rfl
  have o2 := HE3.out.obox.cell 2 rfl
  have o3 := HE3.out.obox.cell 3 rfl
  have r0 := HE3.out.rbox.cell 0 rfl
  have r1 := HE3.out.rbox.cell 1 rfl
  have r2 := HE3.out.rbox.cell 2 rfl
  have r3 := HE3.out.rbox.cell 3 rfl
  have s0 := HE3.out.rbox.frozen 0
  have s1 := HE3.out.rbox.frozen 1
  have s2 := HE3.out.rbox.frozen 2
  have s3 := HE3.out.rbox.frozen 3
  go_wp2
  refine bodyPost_ret (lbend_results rfl (put4D HE3.out.rbox)) rfl ?_
  exact (HE3.out.mono (by omega)).fin (HDR.out.loose) rfl
 ·have HPK := Lib.hid (pick_any sb (n + 2) 8 w3 HE3.out.drew.2 (by omega) (by decide))
  go_wp2_with fail
  refine Calls.mono HPK.out ?_
  rintro e w4 ⟨x, rfl, hx0, -, hx1, hd4⟩
  have hx2 := hx1 (by decide)
  have HE4 := Lib.hid (HE3.out.then hd4)
  have hs4 : w.heap.size ≤ w4.heap.size := HE4.out.drew.size
  clear hd4 HPK HE3 hx1
  have o0 := HE4.out.obox.cell 0 rfl
  have o1 := HE4.out.obox.cell 1 rfl
  have o2 := HE4.out.obox.cell 2 rfl
  have o3 := HE4.out.obox.cell 3 rfl
  have hxx : x = 0 ∨ x = 1 ∨ x = 2 ∨ x = 3 ∨ x = 4 ∨ x = 5 ∨ x = 6 ∨ x = 7 := by omega
  rcases hxx with rfl | rfl | rfl | rfl | rfl | rfl | rfl | rfl
  ·obtain ⟨W5, hW5⟩ : ∃ W5, W5 = w4.alloc (.cells #[.int .i64 0, .int .i64 (-1), .int .i64 41, .int .i64 40, .int .i64 (t.states - 1)] 2) := ⟨_, rfl⟩
   have hb5 : Below w4.heap.size w4 W5 := by rw [hW5]; exact (Below.refl _ _).alloc (Nat.le_refl _) _
   have hI5 : SliceK 1 encI w4.heap.size W5 (.slice (some ⟨w4.heap.size, 0, none⟩) 5 5) [0, -1, 41, 40, t.states - 1] := by
    have h := World.ownsRow_lit (base := w4.heap.size) (size := 1) w4 #[.int .i64 0, .int .i64 (-1), .int .i64 41, .int .i64 40, .int .i64 (t.states - 1)] (e := 2) 5 (Nat.le_refl _) (by simp [maxLen]) rfl
    rw [hW5]
    exact SliceK.of_owns (enc := encI) (e := 2) encI_len rfl (by rw [flat_encI]; exact h)
   have HE5 := Lib.hid (HE4.out.below hb5)
   have HAM := Lib.hid (among_any sb (n + 2 + 2) w4.heap.size _ _ W5 HE5.out.drew.2 (by omega) hI5 (by omega) (Nat.succ_pos _) (by simp))
   have HW5 := Lib.hid hW5
   have hst1 := HDR.out.st.1
   have hst2 := HDR.out.st.2
   clear hW5 hb5 hI5 HE4
   go_wp2_with fail
   rw [← HW5.out]
   refine Calls.mono HAM.out ?_
   rintro e w6 ⟨y, -, rfl, hd6⟩
   have HE6 := Lib.hid (HE5.out.then hd6)
   clear hd6 HAM HE5 o0 o1 o2 o3
   have o0 := HE6.out.obox.cell 0 rfl
   have p0 := HE6.out.obox.frozen 0
   obtain ⟨W7, hW7⟩ : ∃ W7, W7 = w6.setCell ⟨ob, 0, none⟩ (.int .i64 y) := ⟨_, rfl⟩
   have HE7 : Hid (BEnv sb (n + 2 + 2 + 2) rb ob ⟨y, t.initial, t.labels, t.edges⟩ (.slice la t.labels.length lc) (.slice ea t.edges.length ec) w W7) := by unfold Hid; rw [hW7]; exact HE6.out.field 0 _ rfl HE6.out.own
   have HLO : Hid (LooseG (F + 1) (M + 1) ⟨y, t.initial, t.labels, t.edges⟩) := ⟨(HDR.out.loose).few, (HDR.out.loose).short, (HDR.out.loose).most⟩
   have HW7 := Lib.hid hW7
   clear hW7 HE6
   go_upto_region 26 with fail
   rw [← HW7.out]
   have o0 := HE7.out.obox.cell 0 rfl
   have o1 := HE7.out.obox.cell 1 rfl
   have o2 := HE7.out.obox.cell 2 rfl
   have o3 := HE7.out.obox.cell 3 rfl
   have r0 := HE7.out.rbox.cell 0 rfl
   have r1 := HE7.out.rbox.cell 1 rfl
   have r2 := HE7.out.rbox.cell 2 rfl
   have r3 := HE7.out.rbox.cell 3 rfl
   have s0 := HE7.out.rbox.frozen 0
   have s1 := HE7.out.rbox.frozen 1
   have s2 := HE7.out.rbox.frozen 2
   have s3 := HE7.out.rbox.frozen 3
   go_wp2
   refine bodyPost_ret (lbend_results rfl (put4D HE7.out.rbox)) rfl ?_
   exact (HE7.out.mono (by omega)).fin HLO.out rfl
  ·obtain ⟨W5, hW5⟩ : ∃ W5, W5 = w4.alloc (.cells #[.int .i64 (-1), .int .i64 t.states] 2) := ⟨_, rfl⟩
   have hb5 : Below w4.heap.size w4 W5 := by rw [hW5]; exact (Below.refl _ _).alloc (Nat.le_refl _) _
   have hI5 : SliceK 1 encI w4.heap.size W5 (.slice (some ⟨w4.heap.size, 0, none⟩) 2 2) [-1, t.states] := by
    have h := World.ownsRow_lit (base := w4.heap.size) (size := 1) w4 #[.int .i64 (-1), .int .i64 t.states] (e := 2) 2 (Nat.le_refl _) (by simp [maxLen]) rfl
    rw [hW5]
    exact SliceK.of_owns (enc := encI) (e := 2) encI_len rfl (by rw [flat_encI]; exact h)
   have HE5 := Lib.hid (HE4.out.below hb5)
   have HAM := Lib.hid (among_any sb (n + 2 + 2) w4.heap.size _ _ W5 HE5.out.drew.2 (by omega) hI5 (by omega) (Nat.succ_pos _) (by simp))
   have HW5 := Lib.hid hW5
   have hst1 := HDR.out.st.1
   have hst2 := HDR.out.st.2
   clear hW5 hb5 hI5 HE4
   go_wp2_with fail
   rw [← HW5.out]
   refine Calls.mono HAM.out ?_
   rintro e w6 ⟨y, -, rfl, hd6⟩
   have HE6 := Lib.hid (HE5.out.then hd6)
   clear hd6 HAM HE5 o0 o1 o2 o3
   have o0 := HE6.out.obox.cell 1 rfl
   have p0 := HE6.out.obox.frozen 1
   obtain ⟨W7, hW7⟩ : ∃ W7, W7 = w6.setCell ⟨ob, 1, none⟩ (.int .i64 y) := ⟨_, rfl⟩
   have HE7 : Hid (BEnv sb (n + 2 + 2 + 2) rb ob ⟨t.states, y, t.labels, t.edges⟩ (.slice la t.labels.length lc) (.slice ea t.edges.length ec) w W7) := by unfold Hid; rw [hW7]; exact HE6.out.field 1 _ rfl HE6.out.own
   have HLO : Hid (LooseG (F + 1) (M + 1) ⟨t.states, y, t.labels, t.edges⟩) := ⟨(HDR.out.loose).few, (HDR.out.loose).short, (HDR.out.loose).most⟩
   have HW7 := Lib.hid hW7
   clear hW7 HE6
   go_upto_region 26 with fail
   rw [← HW7.out]
   have o0 := HE7.out.obox.cell 0 rfl
   have o1 := HE7.out.obox.cell 1 rfl
   have o2 := HE7.out.obox.cell 2 rfl
   have o3 := HE7.out.obox.cell 3 rfl
   have r0 := HE7.out.rbox.cell 0 rfl
   have r1 := HE7.out.rbox.cell 1 rfl
   have r2 := HE7.out.rbox.cell 2 rfl
   have r3 := HE7.out.rbox.cell 3 rfl
   have s0 := HE7.out.rbox.frozen 0
   have s1 := HE7.out.rbox.frozen 1
   have s2 := HE7.out.rbox.frozen 2
   have s3 := HE7.out.rbox.frozen 3
   go_wp2
   refine bodyPost_ret (lbend_results rfl (put4D HE7.out.rbox)) rfl ?_
   exact (HE7.out.mono (by omega)).fin HLO.out rfl
  ·obtain ⟨g, c, hgc, -, -⟩ := HE4.out.own.1.form HDR.out.pos
   simp only [Value.slice.injEq, true_and] at hgc
   obtain ⟨rfl, rfl⟩ := hgc
   have c0 := own_cellD (k := 0) HE4.out.own.1 (by simpa using HDR.out.pos)
   have f0 := own_frozenD HE4.out.own.1 0
   have hlp := HDR.out.pos
   obtain ⟨W7, hW7⟩ : ∃ W7, W7 = w4.setCell ⟨g, 0, none⟩ (.string nmA) := ⟨_, rfl⟩
   have HE7 : Hid (BEnv sb (n + 2 + 2) rb ob ⟨t.states, t.initial, t.labels.set 0 nmA, t.edges⟩ (.slice (some ⟨g, 0, none⟩) t.labels.length lc) (.slice ea t.edges.length ec) w W7) := by unfold Hid; rw [hW7]; exact HE4.out.label 0 nmA
   have HLO : Hid (LooseG (F + 1) (M + 1) ⟨t.states, t.initial, t.labels.set 0 nmA, t.edges⟩) := ⟨by rw [List.length_set]; exact (HDR.out.loose).few, (fun l h => by
    rcases List.mem_or_eq_of_mem_set h with h | h
    ·exact (HDR.out.loose).short l h
    ·rw [h]; decide), (HDR.out.loose).most⟩
   have HW7 : Hid (W7 = w4.setCell ⟨g, 0, none⟩ (.string ⟨#[97]⟩)) := hW7
   clear hW7 HE4
   go_upto_region 26 with fail
   rw [← HW7.out]
   have o0 := HE7.out.obox.cell 0 rfl
   have o1 := HE7.out.obox.cell 1 rfl
   have o2 := HE7.out.obox.cell 2 rfl
   have o3 := HE7.out.obox.cell 3 rfl
   have r0 := HE7.out.rbox.cell 0 rfl
   have r1 := HE7.out.rbox.cell 1 rfl
   have r2 := HE7.out.rbox.cell 2 rfl
   have r3 := HE7.out.rbox.cell 3 rfl
   have s0 := HE7.out.rbox.frozen 0
   have s1 := HE7.out.rbox.frozen 1
   have s2 := HE7.out.rbox.frozen 2
   have s3 := HE7.out.rbox.frozen 3
   go_wp2
   refine bodyPost_ret (lbend_results rfl (put4D HE7.out.rbox)) rfl ?_
   exact (HE7.out.mono (by omega)).fin HLO.out rfl
  ·have hlf := HDR.out.few
   obtain ⟨i0, hi0, hz0, hz1, hz2⟩ := info_parts info_strD
   obtain ⟨W5, hW5⟩ : ∃ W5, W5 = (w4.alloc (.cells #[.string ⟨#[116, 97, 117]⟩, .string ⟨#[97]⟩, .string ⟨#[122, 122]⟩, .string ⟨#[65]⟩, .string ⟨#[]⟩] 9)).drew := ⟨_, rfl⟩
   have hb5 : Below w4.heap.size w4 W5 := by rw [hW5]; exact ((Below.refl _ _).alloc (Nat.le_refl _) _).drew
   have hX5 : SliceK 1 encS w4.heap.size W5 (.slice (some ⟨w4.heap.size, 0, none⟩) 5 5) bendX := by
    have h := strs_lit (w := w4) (xs := bendX) (cs := #[.string ⟨#[116, 97, 117]⟩, .string ⟨#[97]⟩, .string ⟨#[122, 122]⟩, .string ⟨#[65]⟩, .string ⟨#[]⟩]) rfl (by decide)
    rw [hW5]
    exact SliceK.of_owns (enc := encS) (e := 9) encS_len rfl (by rw [flat_encS]; exact h.drew)
   have HE5 := Lib.hid (HE4.out.below hb5)
   have HTX := Lib.hid (textOf_any sb (n + 2 + 2) w4.heap.size _ bendX W5 HE5.out.drew.2 (by omega) hX5 (by omega) (by decide) (by decide))
   have HW5 := Lib.hid hW5
   have hol := HE4.out.obox.lt
   have hol2 : ob ≠ w4.heap.size := by omega
   have y5 := HE5.out.obox.cell 2 rfl
   clear hW5 hb5 hX5
   go_upto_region 12 with fail
   have y0 : w4.drew.cell? ⟨ob, 2, none⟩ = some (.slice la t.labels.length lc) := o2
   go_region_law
    (first
     | (refine step_append_lies _ (by rfl) _ _ _ (by rfl) w.heap.size 9 i0 _ 1 16 Tryz.underlying24 hi0 hz0 hz1 hz2 rfl (by decide) (.slice la t.labels.length lc) t.labels.length (t.labels.map .string) (by rfl) (HE6.out.own.1.alloc _) ⟨w6.heap.size, 0, none⟩ 1 1 [.string x] (by rfl) (by rfl) (World.news_of_block (cs := #[.string x]) (t := 9) (fr := (0, 0)) (heap_alloc_new _ _)) (by simp [Value.oneCell']) (by decide) (by simp [maxLen]; omega) (by omega) (by simp; omega) (w6.heap.size + 1) (by simp) ?_; intro gg cap w7 hown7 hgrow7 hat7 hlt7; obtain ⟨hd7, ho7, hb7, hr7⟩ := (HE6.out.below ((Below.refl _ _).alloc (Nat.le_refl _) (.cells #[.string x] 9))).pushL (x := x) hgrow7 hown7; have q3 := hb7.cell 2 rfl; have z3 := hb7.frozen 2; have hpu := (HE6.out.below ((Below.refl _ _).alloc (Nat.le_refl _) (.cells #[.string x] 9))).pushedL (x := x) hgrow7 hown7)
     | (go_simp; go_at_call 75; (try rw [← HW5.out]); refine Calls.mono HTX.out ?_; rintro e w6 ⟨x, hx, rfl, hd6⟩; have HE6 := Lib.hid (HE5.out.then hd6); have y6 := HE6.out.obox.cell 2 rfl; have hs6 : w.heap.size ≤ w6.heap.size := HE6.out.drew.size; have hol6 : ob < w6.heap.size := HE6.out.obox.lt; have hol7 : ob ≠ w6.heap.size := Nat.ne_of_lt hol6))
   all_goals (
    obtain ⟨W7, hW7⟩ : ∃ W7, W7 = w7.setCell ⟨ob, 2, none⟩ (.slice (some ⟨gg, 0, none⟩) (t.labels.length + 1) cap) := ⟨_, rfl⟩
    have hpu2 : BEnv sb (n + 2 + 2 + 2) rb ob ⟨t.states, t.initial, t.labels ++ [x], t.edges⟩ (.slice (some ⟨gg, 0, none⟩) (t.labels.length + 1) cap) (.slice ea t.edges.length ec) w W7 := by rw [hW7]; exact hpu
    have HE7 := Lib.hid hpu2
    have HLO : Hid (LooseG (F + 1) (M + 1) ⟨t.states, t.initial, t.labels ++ [x], t.edges⟩) := ⟨by simp; omega, (fun l hl => by
     rcases List.mem_append.1 hl with h | h
     ·exact (HDR.out.loose).short l h
     ·rw [List.mem_singleton] at h
      rw [h]
      exact bendX_short x hx), (HDR.out.loose).most⟩
    have HW7 := Lib.hid hW7
    clear hW7 hpu hpu2 hd7 ho7 hb7 hr7 q3 z3 hown7 hgrow7 hat7 hlt7 HE6 HE5 HE4 HTX hd6 hx y0 y5 y6 o0 o1 o2 o3
    go_upto_region 26 with fail
    rw [← HW7.out]
    have o0 := HE7.out.obox.cell 0 rfl
    have o1 := HE7.out.obox.cell 1 rfl
    have o2 := HE7.out.obox.cell 2 rfl
    have o3 := HE7.out.obox.cell 3 rfl
    have r0 := HE7.out.rbox.cell 0 rfl
    have r1 := HE7.out.rbox.cell 1 rfl
    have r2 := HE7.out.rbox.cell 2 rfl
    have r3 := HE7.out.rbox.cell 3 rfl
    have s0 := HE7.out.rbox.frozen 0
    have s1 := HE7.out.rbox.frozen 1
    have s2 := HE7.out.rbox.frozen 2
    have s3 := HE7.out.rbox.frozen 3
    go_wp2
    refine bodyPost_ret (lbend_results rfl (put4D HE7.out.rbox)) rfl ?_
    exact (HE7.out.mono (by omega)).fin HLO.out (by simp))
  ·have hmo := HDR.out.most
   by_cases hE : 0 < t.edges.length
   ·obtain ⟨g, c, hgc, -, -⟩ := HE4.out.own.2.form hE
    simp only [Value.slice.injEq, true_and] at hgc
    obtain ⟨rfl, rfl⟩ := hgc
    obtain ⟨xa, xc, hxe, -, -, hrow⟩ := SliceK.of_owns (e := 62) encE_len rfl HE4.out.own.2
    simp only [Value.slice.injEq, true_and] at hxe
    obtain ⟨rfl, rfl⟩ := hxe
    obtain ⟨be, oe, hxa, -, hbe, e1, e2, e3⟩ := hrow.edge hE
    simp only [Option.some.injEq, Addr.mk.injEq, and_true] at hxa
    obtain ⟨rfl, rfl⟩ := hxa
    obtain ⟨ed, hed⟩ : ∃ ed, ed = t.edges[0] := ⟨_, rfl⟩
    rw [← hed] at e1 e2 e3
    simp only [Nat.zero_mul, Nat.zero_add, Nat.add_zero] at e1 e2 e3
    obtain ⟨i2, hi2, hy0, hy1, hy2⟩ := info_parts info_edgeD
    have HOA : Hid (∀ o, ((w4.alloc o).drew).ownsRow w.heap.size 62 3 (.slice (some ⟨g, 0, none⟩) t.edges.length ec) t.edges.length (t.edges.flatMap encE)) := fun o => (HE4.out.own.2.alloc o).drew
    have HEA : Hid (∀ o, BEnv sb (n + 2 + 2) rb ob t (.slice la t.labels.length lc) (.slice (some ⟨g, 0, none⟩) t.edges.length ec) w ((w4.alloc o).drew)) := fun o => HE4.out.below (((Below.refl _ _).alloc (Nat.le_refl _) o).drew)
    clear hrow hed
    have hol := HE4.out.obox.lt
    have hol2 : ob ≠ w4.heap.size := by omega
    have hgl2 : g ≠ w4.heap.size := by omega
    go_upto_region 15 with fail
    have y0 : w4.drew.cell? ⟨ob, 3, none⟩ = some (.slice (some ⟨g, 0, none⟩) t.edges.length ec) := o3
    have y1 : w4.drew.cell? ⟨g, 0, none⟩ = some (.int .i64 ed.src) := e1
    have y2 : w4.drew.cell? ⟨g, 1, none⟩ = some (.int .i64 ed.lab) := e2
    have y3 : w4.drew.cell? ⟨g, 2, none⟩ = some (.int .i64 ed.dst) := e3
    go_region_law
     ((refine step_append_lies _ (by rfl) _ _ _ (by rfl) w.heap.size 62 i2 _ 3 24 Tryz.underlying25 hi2 hy0 hy1 hy2 rfl (by decide) (.slice (some ⟨g, 0, none⟩) t.edges.length ec) t.edges.length (t.edges.flatMap encE) (by rfl) (HOA.out _) ⟨w4.heap.size, 0, none⟩ 1 1 [.int .i64 ed.src, .int .i64 ed.lab, .int .i64 ed.dst] (by rfl) (by rfl) (World.news_of_block (cs := #[.int .i64 ed.src, .int .i64 ed.lab, .int .i64 ed.dst]) (t := 62) (fr := (0, 0)) (heap_alloc_new _ _)) (by simp [Value.oneCell']) (by decide) (by simp [maxLen]; omega) (by omega) (by simp; omega) (w4.heap.size + 1) (by simp) ?_; intro gg cap w6 hown6 hgrow6 hat6 hlt6; obtain ⟨hd6, ho6, hb6, hr6⟩ := (HEA.out _).push (x := ed) hgrow6 hown6; have q3 := hb6.cell 3 rfl; have z3 := hb6.frozen 3; have hpu := (HEA.out _).pushed (x := ed) hgrow6 hown6))
    all_goals (
     obtain ⟨W7, hW7⟩ : ∃ W7, W7 = w6.setCell ⟨ob, 3, none⟩ (.slice (some ⟨gg, 0, none⟩) (t.edges.length + 1) cap) := ⟨_, rfl⟩
     have hpu2 : BEnv sb (n + 2 + 2) rb ob ⟨t.states, t.initial, t.labels, t.edges ++ [ed]⟩ (.slice la t.labels.length lc) (.slice (some ⟨gg, 0, none⟩) (t.edges.length + 1) cap) w W7 := by rw [hW7]; exact hpu
     have HE7 := Lib.hid hpu2
     have HLO : Hid (LooseG (F + 1) (M + 1) ⟨t.states, t.initial, t.labels, t.edges ++ [ed]⟩) := ⟨(HDR.out.loose).few, (HDR.out.loose).short, by simp; omega⟩
     have HW7 := Lib.hid hW7
     clear hW7 hpu hpu2 hd6 ho6 hb6 hr6 q3 z3 hown6 hgrow6 hat6 hlt6 HEA HOA HE4 y0 y1 y2 y3 e1 e2 e3 o0 o1 o2 o3
     go_upto_region 26 with fail
     rw [← HW7.out]
     have o0 := HE7.out.obox.cell 0 rfl
     have o1 := HE7.out.obox.cell 1 rfl
     have o2 := HE7.out.obox.cell 2 rfl
     have o3 := HE7.out.obox.cell 3 rfl
     have r0 := HE7.out.rbox.cell 0 rfl
     have r1 := HE7.out.rbox.cell 1 rfl
     have r2 := HE7.out.rbox.cell 2 rfl
     have r3 := HE7.out.rbox.cell 3 rfl
     have s0 := HE7.out.rbox.frozen 0
     have s1 := HE7.out.rbox.frozen 1
     have s2 := HE7.out.rbox.frozen 2
     have s3 := HE7.out.rbox.frozen 3
     go_wp2
     refine bodyPost_ret (lbend_results rfl (put4D HE7.out.rbox)) rfl ?_
     exact (HE7.out.mono (by omega)).fin HLO.out rfl)
   ·go_upto_region 26 with fail
    have o0 := HE4.out.obox.cell 0 rfl
    have o1 := HE4.out.obox.cell 1 rfl
    have o2 := HE4.out.obox.cell 2 rfl
    have o3 := HE4.out.obox.cell 3 rfl
    have r0 := HE4.out.rbox.cell 0 rfl
    have r1 := HE4.out.rbox.cell 1 rfl
    have r2 := HE4.out.rbox.cell 2 rfl
    have r3 := HE4.out.rbox.cell 3 rfl
    have s0 := HE4.out.rbox.frozen 0
    have s1 := HE4.out.rbox.frozen 1
    have s2 := HE4.out.rbox.frozen 2
    have s3 := HE4.out.rbox.frozen 3
    go_wp2
    refine bodyPost_ret (lbend_results rfl (put4D HE4.out.rbox)) rfl ?_
    exact (HE4.out.mono (by omega)).fin (HDR.out.loose) rfl
  ·have hmo := HDR.out.most
   have hlf := HDR.out.few
   have hst1 := HDR.out.st.1
   have hst2 := HDR.out.st.2
   by_cases hE : 0 < t.edges.length
   ·obtain ⟨g, c, hgc, -, -⟩ := HE4.out.own.2.form hE
    simp only [Value.slice.injEq, true_and] at hgc
    obtain ⟨rfl, rfl⟩ := hgc
    obtain ⟨EN, hEN⟩ : ∃ EN, EN = t.edges.length := ⟨_, rfl⟩
    have HPK := Lib.hid (pick_any sb (n + 2 + 2) t.edges.length w4 HE4.out.drew.2 (by omega) (by omega))
    go_wp2_with fail
    refine Calls.mono HPK.out ?_
    rintro e w5 ⟨k0, rfl, hk0, -, hk1, hd5⟩
    have hk2 := hk1 (by omega)
    obtain ⟨k, rfl⟩ : ∃ k : Nat, k0 = (k : Int) := ⟨k0.toNat, by omega⟩
    have hk : k < t.edges.length := by omega
    have HE5 := Lib.hid (HE4.out.then hd5)
    clear hd5 HPK HE4 hk1 hk0 hk2 hEN o0 o1 o2 o3
    obtain ⟨W6, hW6⟩ : ∃ W6, W6 = (w5.alloc (.cells #[.int .i64 (-1), .int .i64 (t.labels.length : Int), .int .i64 0] 2)).drew := ⟨_, rfl⟩
    have hb6 : Below w5.heap.size w5 W6 := by rw [hW6]; exact ((Below.refl _ _).alloc (Nat.le_refl _) _).drew
    have hs5 : w.heap.size ≤ w5.heap.size := HE5.out.drew.size
    have hI6 : SliceK 1 encI w5.heap.size W6 (.slice (some ⟨w5.heap.size, 0, none⟩) 3 3) [-1, (t.labels.length : Int), 0] := by
     have h := World.ownsRow_lit (base := w5.heap.size) (size := 1) w5 #[.int .i64 (-1), .int .i64 (t.labels.length : Int), .int .i64 0] (e := 2) 3 (Nat.le_refl _) (by simp [maxLen]) rfl
     rw [hW6]
     exact SliceK.of_owns (enc := encI) (e := 2) encI_len rfl (by rw [flat_encI]; exact h.drew)
    have HE6 := Lib.hid (HE5.out.below hb6)
    have HAM := Lib.hid (among_any sb (n + 2 + 2 + 2) w5.heap.size _ _ W6 HE6.out.drew.2 (by omega) hI6 (by omega) (Nat.succ_pos _) (by simp))
    have HW6 := Lib.hid hW6
    have hol := HE5.out.obox.lt
    have hol2 : ob ≠ w5.heap.size := Nat.ne_of_lt hol
    have o0 := HE5.out.obox.cell 2 rfl
    have o3 := HE5.out.obox.cell 3 rfl
    have p0 := HE6.out.obox.cell 2 rfl
    have p3 := HE6.out.obox.cell 3 rfl
    clear hW6 hb6 hI6
    go_upto_region 19 with fail
    have y0 : w5.drew.cell? ⟨ob, 2, none⟩ = _ := o0
    have y3 : w5.drew.cell? ⟨ob, 3, none⟩ = _ := o3
    go_region_law
     (first
      | (go_simp; go_at_call 38; (try rw [← HW6.out]); refine Calls.mono HAM.out ?_; rintro e w7 ⟨y, -, rfl, hd7⟩; have HE7 := Lib.hid (HE6.out.then hd7); have q3 := HE7.out.obox.cell 3 rfl; have hxx7 := bend_row HE7.out hk; obtain ⟨e1, e2, e3⟩ := hxx7; have f1 := own_frozenD HE7.out.own.2 (k * 3 + 1)))
    all_goals (
     obtain ⟨W7, hW7⟩ : ∃ W7, W7 = w7.setCell ⟨g, k * 3 + 1, none⟩ (.int .i64 y) := ⟨_, rfl⟩
     have hpu2 : BEnv sb (n + 2 + 2 + 2 + 2) rb ob ⟨t.states, t.initial, t.labels, t.edges.set k ⟨t.edges[k].src, y, t.edges[k].dst⟩⟩ (.slice la t.labels.length lc) (.slice (some ⟨g, 0, none⟩) t.edges.length ec) w W7 := by rw [hW7]; exact HE7.out.edge (k * 3 + 1) _ (List.length_set) (flat_set_lab t.edges k hk y)
     have HE8 := Lib.hid hpu2
     have HLO : Hid (LooseG (F + 1) (M + 1) ⟨t.states, t.initial, t.labels, t.edges.set k ⟨t.edges[k].src, y, t.edges[k].dst⟩⟩) := ⟨(HDR.out.loose).few, (HDR.out.loose).short, by simp; omega⟩
     have HW7 := Lib.hid hW7
     clear hW7 hpu2 hd7 q3 e1 e2 e3 f1 HE7 HE6 HE5 HAM y0 y3 p0 p3 o0 o3
     go_upto_region 26 with fail
     rw [← HW7.out]
     have o0 := HE8.out.obox.cell 0 rfl
     have o1 := HE8.out.obox.cell 1 rfl
     have o2 := HE8.out.obox.cell 2 rfl
     have o3 := HE8.out.obox.cell 3 rfl
     have r0 := HE8.out.rbox.cell 0 rfl
     have r1 := HE8.out.rbox.cell 1 rfl
     have r2 := HE8.out.rbox.cell 2 rfl
     have r3 := HE8.out.rbox.cell 3 rfl
     have s0 := HE8.out.rbox.frozen 0
     have s1 := HE8.out.rbox.frozen 1
     have s2 := HE8.out.rbox.frozen 2
     have s3 := HE8.out.rbox.frozen 3
     go_wp2
     refine bodyPost_ret (lbend_results rfl (put4D HE8.out.rbox)) rfl ?_
     exact (HE8.out.mono (by omega)).fin HLO.out (by simp))
   ·go_upto_region 26 with fail
    have o0 := HE4.out.obox.cell 0 rfl
    have o1 := HE4.out.obox.cell 1 rfl
    have o2 := HE4.out.obox.cell 2 rfl
    have o3 := HE4.out.obox.cell 3 rfl
    have r0 := HE4.out.rbox.cell 0 rfl
    have r1 := HE4.out.rbox.cell 1 rfl
    have r2 := HE4.out.rbox.cell 2 rfl
    have r3 := HE4.out.rbox.cell 3 rfl
    have s0 := HE4.out.rbox.frozen 0
    have s1 := HE4.out.rbox.frozen 1
    have s2 := HE4.out.rbox.frozen 2
    have s3 := HE4.out.rbox.frozen 3
    go_wp2
    refine bodyPost_ret (lbend_results rfl (put4D HE4.out.rbox)) rfl ?_
    exact (HE4.out.mono (by omega)).fin (HDR.out.loose) rfl
  ·have hmo := HDR.out.most
   have hlf := HDR.out.few
   have hst1 := HDR.out.st.1
   have hst2 := HDR.out.st.2
   by_cases hE : 0 < t.edges.length
   ·obtain ⟨g, c, hgc, -, -⟩ := HE4.out.own.2.form hE
    simp only [Value.slice.injEq, true_and] at hgc
    obtain ⟨rfl, rfl⟩ := hgc
    obtain ⟨EN, hEN⟩ : ∃ EN, EN = t.edges.length := ⟨_, rfl⟩
    have HPK := Lib.hid (pick_any sb (n + 2 + 2) t.edges.length w4 HE4.out.drew.2 (by omega) (by omega))
    go_wp2_with fail
    refine Calls.mono HPK.out ?_
    rintro e w5 ⟨k0, rfl, hk0, -, hk1, hd5⟩
    have hk2 := hk1 (by omega)
    obtain ⟨k, rfl⟩ : ∃ k : Nat, k0 = (k : Int) := ⟨k0.toNat, by omega⟩
    have hk : k < t.edges.length := by omega
    have HE5 := Lib.hid (HE4.out.then hd5)
    clear hd5 HPK HE4 hk1 hk0 hk2 hEN o0 o1 o2 o3
    obtain ⟨W6, hW6⟩ : ∃ W6, W6 = (w5.alloc (.cells #[.int .i64 (-1), .int .i64 t.states, .int .i64 0] 2)).drew := ⟨_, rfl⟩
    have hb6 : Below w5.heap.size w5 W6 := by rw [hW6]; exact ((Below.refl _ _).alloc (Nat.le_refl _) _).drew
    have hs5 : w.heap.size ≤ w5.heap.size := HE5.out.drew.size
    have hI6 : SliceK 1 encI w5.heap.size W6 (.slice (some ⟨w5.heap.size, 0, none⟩) 3 3) [-1, t.states, 0] := by
     have h := World.ownsRow_lit (base := w5.heap.size) (size := 1) w5 #[.int .i64 (-1), .int .i64 t.states, .int .i64 0] (e := 2) 3 (Nat.le_refl _) (by simp [maxLen]) rfl
     rw [hW6]
     exact SliceK.of_owns (enc := encI) (e := 2) encI_len rfl (by rw [flat_encI]; exact h.drew)
    have HE6 := Lib.hid (HE5.out.below hb6)
    have HAM := Lib.hid (among_any sb (n + 2 + 2 + 2) w5.heap.size _ _ W6 HE6.out.drew.2 (by omega) hI6 (by omega) (Nat.succ_pos _) (by simp))
    have HW6 := Lib.hid hW6
    have hol := HE5.out.obox.lt
    have hol2 : ob ≠ w5.heap.size := Nat.ne_of_lt hol
    have o0 := HE5.out.obox.cell 0 rfl
    have o3 := HE5.out.obox.cell 3 rfl
    have p0 := HE6.out.obox.cell 0 rfl
    have p3 := HE6.out.obox.cell 3 rfl
    clear hW6 hb6 hI6
    go_upto_region 23 with fail
    have y0 : w5.drew.cell? ⟨ob, 0, none⟩ = _ := o0
    have y3 : w5.drew.cell? ⟨ob, 3, none⟩ = _ := o3
    go_region_law
     (first
      | (go_simp; go_at_call 38; (try rw [← HW6.out]); refine Calls.mono HAM.out ?_; rintro e w7 ⟨y, -, rfl, hd7⟩; have HE7 := Lib.hid (HE6.out.then hd7); have q3 := HE7.out.obox.cell 3 rfl; have hxx7 := bend_row HE7.out hk; obtain ⟨e1, e2, e3⟩ := hxx7; have f1 := own_frozenD HE7.out.own.2 (k * 3 + 2)))
    all_goals (
     obtain ⟨W7, hW7⟩ : ∃ W7, W7 = w7.setCell ⟨g, k * 3 + 2, none⟩ (.int .i64 y) := ⟨_, rfl⟩
     have hpu2 : BEnv sb (n + 2 + 2 + 2 + 2) rb ob ⟨t.states, t.initial, t.labels, t.edges.set k ⟨t.edges[k].src, t.edges[k].lab, y⟩⟩ (.slice la t.labels.length lc) (.slice (some ⟨g, 0, none⟩) t.edges.length ec) w W7 := by rw [hW7]; exact HE7.out.edge (k * 3 + 2) _ (List.length_set) (flat_set_dst t.edges k hk y)
     have HE8 := Lib.hid hpu2
     have HLO : Hid (LooseG (F + 1) (M + 1) ⟨t.states, t.initial, t.labels, t.edges.set k ⟨t.edges[k].src, t.edges[k].lab, y⟩⟩) := ⟨(HDR.out.loose).few, (HDR.out.loose).short, by simp; omega⟩
     have HW7 := Lib.hid hW7
     clear hW7 hpu2 hd7 q3 e1 e2 e3 f1 HE7 HE6 HE5 HAM y0 y3 p0 p3 o0 o3
     go_upto_region 26 with fail
     rw [← HW7.out]
     have o0 := HE8.out.obox.cell 0 rfl
     have o1 := HE8.out.obox.cell 1 rfl
     have o2 := HE8.out.obox.cell 2 rfl
     have o3 := HE8.out.obox.cell 3 rfl
     have r0 := HE8.out.rbox.cell 0 rfl
     have r1 := HE8.out.rbox.cell 1 rfl
     have r2 := HE8.out.rbox.cell 2 rfl
     have r3 := HE8.out.rbox.cell 3 rfl
     have s0 := HE8.out.rbox.frozen 0
     have s1 := HE8.out.rbox.frozen 1
     have s2 := HE8.out.rbox.frozen 2
     have s3 := HE8.out.rbox.frozen 3
     go_wp2
     refine bodyPost_ret (lbend_results rfl (put4D HE8.out.rbox)) rfl ?_
     exact (HE8.out.mono (by omega)).fin HLO.out (by simp))
   ·go_upto_region 26 with fail
    have o0 := HE4.out.obox.cell 0 rfl
    have o1 := HE4.out.obox.cell 1 rfl
    have o2 := HE4.out.obox.cell 2 rfl
    have o3 := HE4.out.obox.cell 3 rfl
    have r0 := HE4.out.rbox.cell 0 rfl
    have r1 := HE4.out.rbox.cell 1 rfl
    have r2 := HE4.out.rbox.cell 2 rfl
    have r3 := HE4.out.rbox.cell 3 rfl
    have s0 := HE4.out.rbox.frozen 0
    have s1 := HE4.out.rbox.frozen 1
    have s2 := HE4.out.rbox.frozen 2
    have s3 := HE4.out.rbox.frozen 3
    go_wp2
    refine bodyPost_ret (lbend_results rfl (put4D HE4.out.rbox)) rfl ?_
    exact (HE4.out.mono (by omega)).fin (HDR.out.loose) rfl
  ·obtain ⟨W5, hW5⟩ : ∃ W5, W5 = w4.alloc (.cells #[] 9) := ⟨_, rfl⟩
   have hb5 : Below w4.heap.size w4 W5 := by rw [hW5]; exact (Below.refl _ _).alloc (Nat.le_refl _) _
   have HE5 := Lib.hid (HE4.out.below hb5)
   have HOS : Hid (W5.ownsRow w.heap.size 9 1 (.slice (some ⟨w4.heap.size, 0, none⟩) 0 0) 0 []) := by
    have h := strs_lit (w := w4) (xs := []) (cs := #[]) rfl (by decide)
    unfold Hid
    rw [hW5]
    exact own_lower h hs4
   have p1 := HE5.out.obox.cell 2 rfl
   have p2 := HE5.out.obox.frozen 2
   rw [hW5] at p1 p2
   obtain ⟨W7, hW7⟩ : ∃ W7, W7 = W5.setCell ⟨ob, 2, none⟩ (.slice (some ⟨w4.heap.size, 0, none⟩) 0 0) := ⟨_, rfl⟩
   have HE7 : Hid (BEnv sb (n + 2 + 2) rb ob ⟨t.states, t.initial, [], t.edges⟩ (.slice (some ⟨w4.heap.size, 0, none⟩) 0 0) (.slice ea t.edges.length ec) w W7) := by unfold Hid; rw [hW7]; exact HE5.out.field 2 _ rfl ⟨HOS.out, HE5.out.own.2⟩
   have HLO : Hid (LooseG (F + 1) (M + 1) ⟨t.states, t.initial, [], t.edges⟩) := ⟨by simp, (fun l h => by cases h), (HDR.out.loose).most⟩
   rw [hW5] at hW7
   have HW7 := Lib.hid hW7
   clear hW7 hW5 hb5 HE5 HE4
   go_upto_region 26 with fail
   rw [← HW7.out]
   have o0 := HE7.out.obox.cell 0 rfl
   have o1 := HE7.out.obox.cell 1 rfl
   have o2 := HE7.out.obox.cell 2 rfl
   have o3 := HE7.out.obox.cell 3 rfl
   have r0 := HE7.out.rbox.cell 0 rfl
   have r1 := HE7.out.rbox.cell 1 rfl
   have r2 := HE7.out.rbox.cell 2 rfl
   have r3 := HE7.out.rbox.cell 3 rfl
   have s0 := HE7.out.rbox.frozen 0
   have s1 := HE7.out.rbox.frozen 1
   have s2 := HE7.out.rbox.frozen 2
   have s3 := HE7.out.rbox.frozen 3
   go_wp2
   refine bodyPost_ret (lbend_results rfl (put4D HE7.out.rbox)) rfl ?_
   exact (HE7.out.mono (by omega)).fin HLO.out rfl
theorem bend_any (sb n lo M : Nat) (t : Lts) (lv ev : Value) (w : World) (hs : Src sb n w) (hn : n ≤ 999000000) (hd : DrawnOk M t) (hM : M ≤ 190) (hl : SliceK 1 encS lo w lv t.labels) (he : SliceK 3 encE lo w ev t.edges) :
  Calls Tryz.prog 57 #[.pointer (some ⟨sb, 0, none⟩), .agg #[.int .i64 t.states, .int .i64 t.initial, lv, ev]] w (RetLo sb (n + 20) w) :=
 bend_gen sb n lo 9 199 t lv ev w hs hn ⟨⟨hd.st.1, by have := hd.st.2; omega⟩, hd.pos, by have := hd.few; omega, fun l h => nm_short l (hd.names l h), by have := hd.most; omega⟩ (by decide) (by decide) hl he

end Go.Proofs.YtifoinannefcpaaGreatDoor

namespace Go.Proofs.YtifoinannefcpaaGreatDoor
open Go Go.RowKit


theorem l11draw_results {w : World} {b : Nat} {v0 v1 v2 v3 : Value} {tmps : Array Value} (hc : tmps.getD 2 undef = .pointer (some ⟨b, 0, none⟩)) (hb : Blk w b [v0, v1, v2, v3] 27) :
  (results Tryz.f31 tmps).run Tryz.prog w = .ok (.agg #[v0, v1, v2, v3]) w := by
 have h0 := hb.cell 0 rfl
 have h1 := hb.cell 1 rfl
 have h2 := hb.cell 2 rfl
 have h3 := hb.cell 3 rfl
 simp only [Array.getD_eq_getD_getElem?] at hc
 simp [results, Tryz.results31, go_sem, hc, h0, h1, h2, h3, Result.andThen]

set_option maxRecDepth 100000 in
set_option maxHeartbeats 2000000 in
theorem drawK_any (sb n : Nat) (w : World) (hs : Src sb n w) (hn : n ≤ 900000000) :
  Calls Tryz.prog 31 #[.pointer (some ⟨sb, 0, none⟩)] w (RetLo sb (n + 620) w) := by
 have hsb := hs.lt
 obtain ⟨rb, hrb⟩ : ∃ rb, rb = w.heap.size := ⟨_, rfl⟩
 obtain ⟨W, hW⟩ : ∃ W, W = w.alloc (.cells #[.int .i64 0, .int .i64 0, .slice none 0 0, .slice none 0 0] 27) := ⟨_, rfl⟩
 have hD0 : Drew sb n w W := by rw [hW]; exact (Drew.refl hs).alloc _
 have hX0 : Blk W rb [.int .i64 0, .int .i64 0, .slice none 0 0, .slice none 0 0] 27 := by rw [hW, hrb]; exact Blk.new w _ _
 have HP1 := Lib.hid (drawOk_any sb n W hD0.2 (by omega))
 have HD0 := Lib.hid hD0
 have HX0 := Lib.hid hX0
 have HW := Lib.hid hW
 have HRB := Lib.hid hrb
 have hrbl : w.heap.size ≤ rb := by rw [hrb]; exact Nat.le_refl _
 have hsW : w.heap.size ≤ W.heap.size := hD0.size
 clear hs hW hD0 hX0 hrb
 go_enter Tryz.func31, Tryz.ntmps31
 go_wp2_with fail
 rw [← HW.out, ← HRB.out]
 refine Calls.mono HP1.out ?_
 rintro e w1 ⟨t, lv, ev, rfl, hd1, hown, hdr⟩
 obtain ⟨la, lc, rfl, -, -⟩ := owns_slice hown.1
 obtain ⟨ea, ec, rfl, -, -⟩ := owns_slice hown.2
 obtain ⟨W2, hW2⟩ : ∃ W2, W2 = w1.alloc (.cells #[.int .i64 t.states, .int .i64 t.initial, .slice la t.labels.length lc, .slice ea t.edges.length ec] 27) := ⟨_, rfl⟩
 have hb2 : Below w1.heap.size w1 W2 := by rw [hW2]; exact (Below.refl _ _).alloc (Nat.le_refl _) _
 have HD2 := Lib.hid ((HD0.out.trans hd1).below hb2)
 have HX2 := Lib.hid ((hd1.blk HX0.out (by omega)).below hb2)
 have hs2 : w.heap.size ≤ W2.heap.size := HD2.out.size
 have ho2 := hown.below hb2
 have HBD := Lib.hid (bend_any sb (n + 600) W.heap.size 100 t _ _ W2 HD2.out.2 (by omega) hdr (by decide) (SliceK.of_owns (enc := encS) (e := 9) encS_len rfl (by rw [flat_encS]; exact ho2.1)) (SliceK.of_owns (e := 62) encE_len rfl ho2.2))
 have HW2 := Lib.hid hW2
 clear hd1 hown hb2 hW2 hdr ho2 HP1 HD0 HX0
 go_wp2_with fail
 rw [← HW2.out]
 refine Calls.mono HBD.out ?_
 rintro e w3 ⟨d, lv3, ev3, rfl, hd3, hown3, hlo⟩
 obtain ⟨la3, lc3, rfl, -, -⟩ := owns_slice hown3.1
 obtain ⟨ea3, ec3, rfl, -, -⟩ := owns_slice hown3.2
 have HD3 := Lib.hid (HD2.out.trans hd3)
 have HX3 := Lib.hid (hd3.blk HX2.out (by omega))
 have HO3 := Lib.hid (hown3.lower hs2)
 have HLO := Lib.hid hlo
 have r0 := HX3.out.cell 0 rfl
 have r1 := HX3.out.cell 1 rfl
 have r2 := HX3.out.cell 2 rfl
 have r3 := HX3.out.cell 3 rfl
 have s0 := HX3.out.frozen 0
 have s1 := HX3.out.frozen 1
 have s2 := HX3.out.frozen 2
 have s3 := HX3.out.frozen 3
 clear hd3 hown3 hlo HBD HD2 HX2
 go_wp2
 refine bodyPost_ret (l11draw_results rfl (put4D HX3.out)) rfl ?_
 exact ⟨d, _, _, rfl, (drew_put4 HD3.out hrbl hsb).mono (by omega), ⟨own_put4D HX3.out HO3.out.1 (by decide), own_put4D HX3.out HO3.out.2 (by decide)⟩, HLO.out⟩

end Go.Proofs.YtifoinannefcpaaGreatDoor
