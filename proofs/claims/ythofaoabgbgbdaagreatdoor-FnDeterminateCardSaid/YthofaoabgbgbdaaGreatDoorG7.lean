/-
  A rising list of edges with one edge more: plain, and how it lies in place.
  The reference's l11Put: an edge is put to its place among rising ones, once.
  The reference's place of a text among texts.
  What the reference says of a number in a list, and of two equal lists.
  What the implementation's labelsOf and arcs compute.
  A slice of slices of one-celled elements, all in memory of the call's own: a row more, a row that grows.
-/
import Derived.Test.YthofaoabgbgbdaaGreatDoorG6
import Derived.Test.YthofaoabgbgbdaaGreatDoorG4
import Derived.Test.YthofaoabgbgbdaaGreatDoorG3
import Derived.Maps.AppendAt
import Derived.Deep.AppendLies
import Derived.Deep.RegionHeld3
import Derived.Test.YthofaoabgbgbdaaGreatDoorG1
namespace Go.Proofs.YthofaoabgbgbdaaGreatDoor
open Go Go.RowKit

section
variable {α : Type}
/-- While the tail is moved up: something at the place k. -/
def shiftG (L : List α) (j : α) (k : Nat) : List α := L.take k ++ j :: L.drop k
theorem shiftG_len {L : List α} (j : α) (k : Nat) : (shiftG L j k).length = L.length + 1 := by
 unfold shiftG
 rw [List.length_append, List.length_cons, ← Nat.add_assoc, ← List.length_append, List.take_append_drop]
theorem shiftG_end (L : List α) (j : α) : L ++ [j] = shiftG L j L.length := by simp [shiftG]
theorem shiftG_get {L : List α} {j : α} {k : Nat} (h1 : 1 ≤ k) (hk : k ≤ L.length) : (shiftG L j k)[k - 1]? = some (L[k - 1]'(by omega)) := by
 unfold shiftG
 rw [List.getElem?_append_left (by rw [List.length_take]; omega), List.getElem?_take, if_pos (by omega), List.getElem?_eq_getElem (by omega)]
theorem shiftG_set {L : List α} {j : α} {k : Nat} (h1 : 1 ≤ k) (hk : k ≤ L.length) : (shiftG L j k).set k (L[k - 1]'(by omega)) = shiftG L (L[k - 1]'(by omega)) (k - 1) := by
 unfold shiftG
 have hl : (L.take k).length = k := by rw [List.length_take]; omega
 rw [List.set_append_right _ _ (by omega), hl, Nat.sub_self, List.set_cons_zero]
 have h2 : L.take k = L.take (k - 1) ++ [L[k - 1]'(by omega)] := by
  have := List.take_succ_eq_append_getElem (l := L) (i := k - 1) (by omega)
  rw [show k - 1 + 1 = k from by omega] at this
  exact this
 have h3 : L.drop (k - 1) = L[k - 1]'(by omega) :: L.drop k := by
  have := List.drop_eq_getElem_cons (l := L) (i := k - 1) (by omega)
  rw [show k - 1 + 1 = k from by omega] at this
  exact this
 rw [h2, h3, List.append_assoc]
 rfl
theorem shiftG_put {L : List α} {j x : α} {k : Nat} (hk : k ≤ L.length) : (shiftG L j k).set k x = L.take k ++ x :: L.drop k := by
 unfold shiftG
 have hl : (L.take k).length = k := by rw [List.length_take]; omega
 rw [List.set_append_right _ _ (by omega), hl, Nat.sub_self, List.set_cons_zero]
end

theorem put_rise {E : List Edge} {e : Edge} {k : Nat} (hr : RiseE E) (hk : k ≤ E.length) (hhi : ∀ j (h : j < E.length), k ≤ j → edgeLess e E[j] = true) (hlo : ∀ h : 0 < k, edgeLess (E[k - 1]'(by omega)) e = true) : RiseE (E.take k ++ e :: E.drop k) := by
 have hp := List.pairwise_iff_getElem.1 hr
 unfold RiseE
 rw [List.pairwise_append, List.pairwise_cons]
 have hdrop : ∀ x ∈ E.drop k, edgeLess e x = true := by
  intro x hx
  obtain ⟨i, hi, rfl⟩ := List.mem_iff_getElem.1 hx
  rw [List.getElem_drop]
  rw [List.length_drop] at hi
  exact hhi _ (by omega) (by omega)
 have htake : ∀ x ∈ E.take k, edgeLess x e = true := by
  intro x hx
  obtain ⟨i, hi, rfl⟩ := List.mem_iff_getElem.1 hx
  rw [List.length_take] at hi
  rw [List.getElem_take]
  have h0 : 0 < k := by omega
  by_cases e1 : i = k - 1
  ·have := hlo h0
   subst e1
   exact this
  ·exact edgeLess_trans _ _ _ (hp i (k - 1) (by omega) (by omega) (by omega)) (hlo h0)
 refine ⟨hr.sublist (List.take_sublist _ _), ⟨hdrop, hr.sublist (List.drop_sublist _ _)⟩, fun a ha b hb => ?_⟩
 rcases List.mem_cons.1 hb with rfl | hb
 ·exact htake a ha
 ·exact edgeLess_trans _ _ _ (htake a ha) (hdrop b hb)
theorem put_mem {E : List Edge} {e : Edge} {k : Nat} (x : Edge) : x ∈ E.take k ++ e :: E.drop k ↔ x ∈ E ∨ x = e := by
 rw [List.mem_append, List.mem_cons]
 have h : x ∈ E ↔ x ∈ E.take k ∨ x ∈ E.drop k := by rw [← List.mem_append, List.take_append_drop]
 rw [h]
 constructor
 ·rintro (h | h | h)
  ·exact .inl (.inl h)
  ·exact .inr h
  ·exact .inl (.inr h)
 ·rintro ((h | h) | h)
  ·exact .inl h
  ·exact .inr (.inr h)
  ·exact .inr (.inl h)
theorem put_len {E : List Edge} (e : Edge) (k : Nat) : (E.take k ++ e :: E.drop k).length = E.length + 1 := by
 have := shiftG_len (L := E) e k
 unfold shiftG at this
 exact this

theorem flat_set : ∀ (E : List Edge) (k : Nat) (x : Edge), k < E.length → (((E.flatMap encE).set (k * 3) (.int .i64 x.src)).set (k * 3 + 1) (.int .i64 x.lab)).set (k * 3 + 2) (.int .i64 x.dst) = (E.set k x).flatMap encE
 | [], _, _, h => by simp at h
 | a :: E, 0, x, _ => by simp [encE]
 | a :: E, k + 1, x, h => by
  have ih := flat_set E k x (by simpa using h)
  rw [show (k + 1) * 3 = k * 3 + 3 from by omega]
  simp only [List.flatMap_cons, encE, List.cons_append, List.nil_append, List.set_cons_succ, List.cons.injEq, true_and]
  exact ih
theorem flat_get : ∀ (E : List Edge) (k : Nat) (h : k < E.length), (E.flatMap encE)[k * 3]? = some (.int .i64 E[k].src) ∧ (E.flatMap encE)[k * 3 + 1]? = some (.int .i64 E[k].lab) ∧ (E.flatMap encE)[k * 3 + 2]? = some (.int .i64 E[k].dst)
 | [], _, h => by simp at h
 | a :: E, 0, _ => by simp [encE]
 | a :: E, k + 1, h => by
  have ih := flat_get E k (by simpa using h)
  rw [show (k + 1) * 3 = k * 3 + 3 from by omega]
  simpa [List.flatMap_cons, encE] using ih

theorem CellsAt.of_owns3 {w : World} {B g n c : Nat} {T : TypeId} {cs : List Value} (h : w.ownsRow B T 3 (.slice (some ⟨g, 0, none⟩) n c) n cs) : CellsAt w g T (n * 3) (c * 3) cs := by
 obtain ⟨h0, ⟨h, -⟩ | ⟨g', cap, cur, e, -, hg, hc, -, hs, ht⟩⟩ := h
 ·cases h
 ·simp only [Value.slice.injEq, Option.some.injEq, Addr.mk.injEq, and_true, true_and] at e
  obtain ⟨rfl, rfl⟩ := e
  refine ⟨⟨cur.toList.drop (n * 3), ?_, ?_⟩, h0⟩
  ·unfold Blk
   rw [← ht, List.take_append_drop]
   simpa using hg
  ·rw [List.length_drop, h0, Array.length_toList, hs]
   omega
theorem CellsAt.owns3 {w : World} {B g n c : Nat} {T : TypeId} {cs : List Value} (h : CellsAt w g T (n * 3) (c * 3) cs) (hB : B ≤ g) (hn : n ≤ c) (hc : c ≤ 9223372036854775807) : w.ownsRow B T 3 (.slice (some ⟨g, 0, none⟩) n c) n cs := by
 obtain ⟨r, hr, hl⟩ := h.blk
 have hlen := h.len
 refine ⟨hlen, .inr ⟨g, c, (cs ++ r).toArray, rfl, hB, hr, hn, by simpa [maxLen] using hc, by simp; omega, ?_⟩⟩
 rw [List.toList_toArray, List.take_append_of_le_length (by omega), List.take_of_length_le (by omega)]
/-- The edges in a block of the call's own. -/
def EdgesAt (w : World) (g n c : Nat) (E : List Edge) : Prop := CellsAt w g 68 (n * 3) (c * 3) (E.flatMap encE)
theorem EdgesAt.put {w : World} {g n c : Nat} {E : List Edge} (h : EdgesAt w g n c E) (hn : E.length = n) {k : Nat} (hk : k < n) (x : Edge) :
  EdgesAt (((w.setCell ⟨g, k * 3, none⟩ (.int .i64 x.src)).setCell ⟨g, k * 3 + 1, none⟩ (.int .i64 x.lab)).setCell ⟨g, k * 3 + 2, none⟩ (.int .i64 x.dst)) g n c (E.set k x) := by
 unfold EdgesAt at h ⊢
 rw [← flat_set E k x (by omega)]
 exact ((h.set (k * 3) (by omega) _).set (k * 3 + 1) (by omega) _).set (k * 3 + 2) (by omega) _
theorem EdgesAt.get {w : World} {g n c : Nat} {E : List Edge} (h : EdgesAt w g n c E) (hn : E.length = n) {k : Nat} (hk : k < n) {x : Edge} (hx : E[k]? = some x) : w.cell? ⟨g, k * 3, none⟩ = some (.int .i64 x.src) ∧ w.cell? ⟨g, k * 3 + 1, none⟩ = some (.int .i64 x.lab) ∧ w.cell? ⟨g, k * 3 + 2, none⟩ = some (.int .i64 x.dst) := by
 have hk2 : k < E.length := by omega
 obtain ⟨h1, h2, h3⟩ := flat_get E k hk2
 rw [List.getElem?_eq_getElem hk2] at hx
 cases hx
 exact ⟨by rw [CellsAt.cell h _ (by omega)]; exact h1, by rw [CellsAt.cell h _ (by omega)]; exact h2, by rw [CellsAt.cell h _ (by omega)]; exact h3⟩
/-- Written in one block only. -/
theorem grown_sets {w w' : World} {g a b c : Nat} {x y z : Value} {row : Option Nat} (h : w.grownBy w' row) (hg : row = some g ∨ w.heap.size ≤ g) : w.grownBy (((w'.setCell ⟨g, a, none⟩ x).setCell ⟨g, b, none⟩ y).setCell ⟨g, c, none⟩ z) row := by
 have one : ∀ {w1 : World} (p : Nat) (u : Value), w.grownBy w1 row → w.grownBy (w1.setCell ⟨g, p, none⟩ u) row := by
  intro w1 p u h1
  have h2 := grown_setCell w1 ⟨g, p, none⟩ u
  refine ⟨h2.os.trans h1.os, h2.tape.trans h1.tape, h2.output.trans h1.output, Nat.le_trans h1.size h2.size, fun k hk hne => ?_⟩
  rw [h2.block k (Nat.lt_of_lt_of_le hk h1.size) (by
   intro e
   simp only [Option.some.injEq] at e
   rcases hg with hg | hg
   ·exact hne (by rw [hg, e])
   ·omega)]
  exact h1.block k hk hne
 exact one _ _ (one _ _ (one _ _ h))

end Go.Proofs.YthofaoabgbgbdaaGreatDoor

namespace Go.Proofs.YthofaoabgbgbdaaGreatDoor
open Go Go.RowKit

theorem info_edgeP : (Tryz.prog.info? 68).map (fun i => (i.zero, i.size, i.bytes)) = some (some (.agg #[.int .i64 0, .int .i64 0, .int .i64 0]), 3, 24) := by kernel_rfl
theorem own_someP {w : World} {base e size n : Nat} {v : Value} {xs : List Value} (h : w.ownsRow base e size v n xs) (hn : 0 < n) : ∃ g c, v = .slice (some ⟨g, 0, none⟩) n c ∧ base ≤ g ∧ g < w.heap.size := by
 rcases h.2 with ⟨h1, h0⟩ | ⟨g, cap, cur, h1, h2, hg, -⟩
 ·omega
 ·exact ⟨g, cap, h1, h2, (Array.getElem?_eq_some_iff.1 hg).1⟩
/-- A rising list with one edge more. -/
def PutIs (E : List Edge) (e : Edge) (R : List Edge) : Prop := RiseE R ∧ R.length ≤ E.length + 1 ∧ ∀ x, x ∈ R ↔ x ∈ E ∨ x = e

set_option maxRecDepth 100000 in
set_option maxHeartbeats 4000000 in
theorem l11Put_any (base : Nat) (v : Value) (E : List Edge) (e : Edge) (w : World) (ho : w.ownsRow base 68 3 v E.length (E.flatMap encE)) (hr : RiseE E) (hb : base ≤ w.heap.size) (hz : E.length ≤ 1000) :
  Calls Tryz.prog 76 #[v, .agg #[.int .i64 e.src, .int .i64 e.lab, .int .i64 e.dst]] w fun en w' => ∃ v' R, en = .returned v' ∧ w.grownBy w' v.ownBlock ∧ w'.ownsRow base 68 3 v' R.length (R.flatMap encE) ∧ PutIs E e R := by
 obtain ⟨va, vc, rfl, hvc, hvm⟩ := owns_slice ho
 obtain ⟨N, hN⟩ : ∃ N, N = E.length := ⟨_, rfl⟩
 obtain ⟨xb, hxb⟩ : ∃ xb, xb = w.heap.size := ⟨_, rfl⟩
 obtain ⟨wA, hwA⟩ : ∃ wA, wA = w.alloc (.cells #[.int .i64 e.src, .int .i64 e.lab, .int .i64 e.dst] 68) := ⟨_, rfl⟩
 have hbA : Below w.heap.size w wA := by rw [hwA]; exact (Below.refl _ _).alloc (Nat.le_refl _) _
 have hX : Blk wA xb [.int .i64 e.src, .int .i64 e.lab, .int .i64 e.dst] 68 := by rw [hwA, hxb]; exact Blk.new w _ _
 obtain ⟨row, hrow9⟩ : ∃ row, row = (Value.slice va E.length vc).ownBlock := ⟨_, rfl⟩
 have HROW9 := Lib.hid hrow9
 have HRB : Hid (∀ b, row = some b → b < xb) := fun b e9 => by rw [hxb]; exact (ho.lt b (by rw [← hrow9]; exact e9)).2
 clear hrow9
 have HO := Lib.hid (owns_below ho hbA)
 have hsk : SliceK 3 encE base wA (.slice va E.length vc) E := SliceK.of_owns encE_len rfl HO.out
 obtain ⟨a9, c9, h9, -, -, hrow⟩ := hsk
 simp only [Value.slice.injEq, true_and] at h9
 obtain ⟨rfl, rfl⟩ := h9
 have HROW := Lib.hid hrow
 rw [← hN] at hz hvc HO HROW9 ⊢
 have HN := Lib.hid hN
 have HR := Lib.hid hr
 have HX := Lib.hid hX
 have HBA := Lib.hid hbA
 have HWA := Lib.hid hwA
 have HXB := Lib.hid hxb
 have hsA : base ≤ wA.heap.size := Nat.le_trans hb hbA.size
 obtain ⟨i3, hi3, hz30, hz31, hz32⟩ := info_parts info_edgeP
 clear ho hr hwA hbA hX hrow hN hxb hb
 go_enter Tryz.func76, Tryz.ntmps76
 go_wp2
 rw [← HWA.out]
 try rw [← HXB.out]
 go_loopw [5] (fun v5 wr => ∃ k : Nat, k ≤ N ∧ v5 = .int .i64 k ∧ Below wA.heap.size wA wr ∧ ∀ j (h : j < E.length), k ≤ j → edgeLess e E[j] = true) (fun v5 _ => (intOf v5).toNat)
 case atStart => exact ⟨N, Nat.le_refl _, rfl, Below.refl _ _, fun j h hj => by have := HN.out; omega⟩
 case round =>
  obtain ⟨k, hk, rfl, hbl, hhi⟩ := hrel
  obtain ⟨wC, rfl⟩ : ∃ wC : World, wC = wr := ⟨_, rfl⟩
  have HBL := Lib.hid hbl
  have HHI := Lib.hid hhi
  have hszC := hbl.size
  clear hhi
  by_cases h0 : 0 < k
  ·obtain ⟨m, rfl⟩ : ∃ m, k = m + 1 := ⟨k - 1, by omega⟩
   have hm2 : m < E.length := by have := HN.out; omega
   obtain ⟨g, o, rfl, hgB, hgw, e1, e2, e3⟩ := (HROW.out.below hbl).edge hm2
   obtain ⟨x, hx⟩ : ∃ x, x = E[m] := ⟨_, rfl⟩
   rw [← hx] at e1 e2 e3
   have hXC := HX.out.below hbl
   have HLS := Lib.hid (l11Less_any xb 0 g (o + m * 3) e x wC ⟨hXC.cell 0 rfl, hXC.cell 1 rfl, hXC.cell 2 rfl⟩ ⟨e1, e2, e3⟩)
   obtain ⟨lb, hlb⟩ : ∃ lb, lb = edgeLess e x := ⟨_, rfl⟩
   rw [← hlb] at HLS
   have HLB := Lib.hid hlb
   have HXX := Lib.hid hx
   have E1 := Lib.hid e1
   have E2 := Lib.hid e2
   have E3 := Lib.hid e3
   have hm1 : (((m + 1 : Nat) : Int) - 1) = (m : Int) := by omega
   clear hbl hx hlb hXC e1 e2 e3
   go_wp2_with fail
   refine Calls.mono HLS.out ?_
   rintro en w2 ⟨rfl, hb2⟩
   have HB2 := Lib.hid (HBL.out.trans (hb2.mono hszC))
   have HB02 := Lib.hid hb2
   have hsz2 := HB2.out.size
   clear HLS
   cases lb with
   | true =>
    clear hb2
    go_wp2
    go_roundw
    case rel => exact ⟨m, by omega, by go_num, HB2.out, fun j h hj => by
     by_cases e9 : j = m
     ·subst e9; rw [← HXX.out]; exact HLB.out.symm
     ·exact HHI.out j h (by omega)⟩
    case measure => simp [intOf]
   | false =>
    -- the place is found: m + 1
    have f1 := keeps hb2 hgw E1.out
    have f2 := keeps hb2 hgw E2.out
    have f3 := keeps hb2 hgw E3.out
    have x1 := (HX.out.below HB2.out).cell 0 rfl
    have x2 := (HX.out.below HB2.out).cell 1 rfl
    have x3 := (HX.out.below HB2.out).cell 2 rfl
    have hgw2 : g < w2.heap.size := Nat.lt_of_lt_of_le hgw hb2.size
    have hxw2 : xb < w2.heap.size := (HX.out.below HB2.out).lt
    have lf1 := later_cell hgw2 f1
    have lf2 := later_cell hgw2 f2
    have lf3 := later_cell hgw2 f3
    have lx1 := later_cell hxw2 x1
    have lx2 := later_cell hxw2 x2
    have lx3 := later_cell hxw2 x3
    have hE := fun w' => eqEdge x e w'
    have hGd := fun (op : BinOp) (a b : Operand) (w : World) => guardEdge op a b #[.int .i64 x.src, .int .i64 x.lab, .int .i64 x.dst] #[.int .i64 e.src, .int .i64 e.lab, .int .i64 e.dst] w
    have hpos : decide ((0 : Int) < ((m + 1 : Nat) : Int)) = true := decide_eq_true (by omega)
    have hpos2 : (0 : Int) < ((m + 1 : Nat) : Int) := by omega
    clear hb2 f1 f2 f3 x1 x2 x3
    cases hq : (x.src == e.src && x.lab == e.lab && x.dst == e.dst) with
    | true =>
     rw [hq] at hE
     have HF : Hid (PutIs E e E) := by
      refine ⟨HR.out, Nat.le_succ _, fun y => ⟨.inl, fun h => h.elim id fun h => ?_⟩⟩
      rw [h]
      have : e = x := by
       simp only [Bool.and_eq_true, beq_iff_eq] at hq
       obtain ⟨⟨h1, h2⟩, h3⟩ := hq
       cases x; cases e
       simp only at h1 h2 h3
       subst h1 h2 h3
       rfl
      rw [this, HXX.out]
      exact List.getElem_mem _
     clear hq
     go_wp2
     refine wp_region_later (by kernel_rfl) (by kernel_rfl) ?_
     repeat (go_big_quiet_step ((fail)))
     refine wpQuiet_nil ?_
     intro _ hw9
     obtain ⟨nl, hw8⟩ := hw9
     subst hw8
     have HBN := Lib.hid (HBA.out.trans ((HB2.out.trans (nl.h.mono hsz2)).mono HBA.out.size))
     have HON := Lib.hid (owns_below (owns_below HO.out HB2.out) nl.h)
     clear lf1 lf2 lf3 lx1 lx2 lx3 hE hGd
     go_wp2
     go_ret
     exact ⟨_, E, rfl, grown_below HBN.out _, by rw [← HN.out]; exact HON.out, HF.out⟩
    | false =>
     rw [hq] at hE
     have hlt : edgeLess x e = true := by
      cases h : edgeLess x e with
      | true => rfl
      | false =>
       have h2 := edgeLess_tri x e h HLB.out.symm
       rw [h2] at hq
       simp at hq
     have HPR : Hid (PutIs E e (E.take (m + 1) ++ e :: E.drop (m + 1))) := ⟨put_rise HR.out (by have := HN.out; omega) HHI.out (fun _ => by simp only [Nat.add_sub_cancel]; rw [← HXX.out]; exact hlt), by rw [put_len]; exact Nat.le_refl _, put_mem⟩
     clear hq hlt
     go_wp2
     refine wp_region_later (by kernel_rfl) (by kernel_rfl) ?_
     repeat (go_big_quiet_step ((fail)))
     refine wpQuiet_nil ?_
     intro _ hw9
     obtain ⟨nl, hw8⟩ := hw9
     subst hw8
     obtain ⟨wE, hwE⟩ : ∃ wE, wE = nl.w := ⟨_, rfl⟩
     have hbE : Below w2.heap.size w2 wE := by rw [hwE]; exact nl.h
     have HBE : Hid (Below wA.heap.size wA wE) := HB2.out.trans (hbE.mono hsz2)
     rw [← hwE]
     clear lf1 lf2 lf3 lx1 lx2 lx3 hE hGd hwE hbE hm1 hpos hpos2
     clear nl
     have HOE := Lib.hid (owns_below HO.out HBE.out)
     have hszE := HBE.out.size
     have HWE : Hid (Below w.heap.size w (wE.alloc (.cells #[.int .i64 0, .int .i64 0, .int .i64 0] 68))) := (HBA.out.trans (HBE.out.mono HBA.out.size)).alloc (Nat.le_trans HBA.out.size hszE) _
     go_wp2_with (at_builtin; refine wpList_append_own_at _ rfl _ _ 25 rfl base 68 i3 (.agg #[.int .i64 0, .int .i64 0, .int .i64 0]) 3 24 Tryz.underlying25 hi3 hz30 hz31 hz32 rfl (by decide) _ N _ rfl (HOE.out.alloc _) ⟨wE.heap.size, 0, none⟩ 1 1 [.int .i64 0, .int .i64 0, .int .i64 0] rfl rfl (World.news_of_block (cs := #[.int .i64 0, .int .i64 0, .int .i64 0]) (t := 68) (fr := (0, 0)) (heap_alloc_new _ _)) ?k2 ?k3 ?k4 ?k5 ?_)
     case k2 => first | (intro u hu; simp at hu; subst hu; rfl) | rfl
     case k3 => first | (simp [maxLen]; omega) | omega
     case k4 => omega
     case k5 => first | omega | (simp; omega)
     intro v7 w7 ho7 hg7 _ ha7
     obtain ⟨g7, c7, rfl, hgB, hgw⟩ := own_someP ho7 (by omega)
     have hfl : E.flatMap encE ++ [.int .i64 0, .int .i64 0, .int .i64 0] = (shiftG E (⟨0, 0, 0⟩ : Edge) N).flatMap encE := by
      rw [HN.out, ← shiftG_end, List.flatMap_append]
      rfl
     have hc7 : N + 1 ≤ c7 ∧ c7 ≤ maxLen := by
      obtain ⟨a, c, e9, h1, h2⟩ := owns_slice ho7
      simp only [Value.slice.injEq] at e9
      obtain ⟨-, -, rfl⟩ := e9
      exact ⟨h1, h2⟩
     rw [hfl] at ho7
     have HE7 : Hid (EdgesAt w7 g7 (N + 1) c7 (shiftG E (⟨0, 0, 0⟩ : Edge) N)) := CellsAt.of_owns3 ho7
     have HG7 : Hid (w.grownBy w7 row) := by unfold Hid; rw [HROW9.out]; exact grown_trans (grown_below HWE.out _) hg7
     have HGR : Hid (row = some g7 ∨ w.heap.size ≤ g7) := by
      unfold Hid
      rcases ha7 with h | h
      ·left; rw [HROW9.out]; exact h.symm
      ·right
       simp only [Value.ownBlock, Option.some.injEq] at h
       have := HBA.out.size
       omega
     have HXG : Hid (xb ≠ g7) := by
      unfold Hid
      rcases ha7 with h | h
      ·have := HRB.out g7 (by rw [HROW9.out]; exact h.symm)
       omega
      ·simp only [Value.ownBlock, Option.some.injEq] at h
       have := HX.out.lt
       omega
     have HX7 : Hid (Blk w7 xb [.int .i64 e.src, .int .i64 e.lab, .int .i64 e.dst] 68) := by
      have h := (HX.out.below HBE.out).alloc (.cells #[.int .i64 0, .int .i64 0, .int .i64 0] 68)
      refine (hg7.block xb h.lt fun e9 => ?_).trans h
      have := HRB.out xb (by rw [HROW9.out]; exact e9.symm)
      omega
     have HGB : Hid (base ≤ g7) := hgB
     have HC7 := Lib.hid hc7
     clear ho7 hg7 ha7 hgB hfl hc7
     go_wp2
     go_loopw [6] (fun v6 wr => ∃ (mm : Nat) (j : Edge), (m + 1) ≤ mm ∧ mm ≤ N ∧ v6 = .int .i64 mm ∧ EdgesAt wr g7 (N + 1) c7 (shiftG E j mm) ∧ w.grownBy wr row ∧ Blk wr xb [.int .i64 e.src, .int .i64 e.lab, .int .i64 e.dst] 68) (fun v6 _ => (intOf v6).toNat)
     case atStart => exact ⟨N, ⟨0, 0, 0⟩, by omega, Nat.le_refl _, by first | rfl | go_num, HE7.out, HG7.out, HX7.out⟩
     case round =>
      obtain ⟨mm, j, hK1, hmN, rfl, hed, hgr9, hxb9⟩ := hrel
      have HXB9 := Lib.hid hxb9
      obtain ⟨w9, rfl⟩ : ∃ w9 : World, w9 = wr := ⟨_, rfl⟩
      have HED := Lib.hid hed
      have HGR9 := Lib.hid hgr9
      have hlen : (shiftG E j mm).length = N + 1 := by rw [shiftG_len, ← HN.out]
      have hj : (shiftG E j mm)[mm]? = some j := by
       unfold shiftG
       have hl : (E.take mm).length = mm := by rw [List.length_take, ← HN.out]; omega
       rw [List.getElem?_append_right (by omega), hl, Nat.sub_self]
       rfl
      obtain ⟨t1, t2, t3⟩ := EdgesAt.get hed hlen (k := mm) (by omega) hj
      have z1 := CellsAt.frozen hed (mm * 3)
      have z2 := CellsAt.frozen hed (mm * 3 + 1)
      have z3 := CellsAt.frozen hed (mm * 3 + 2)
      have hglt := CellsAt.lt hed
      by_cases hgt : (m + 1) < mm
      ·obtain ⟨q, rfl⟩ : ∃ q, mm = q + 1 := ⟨mm - 1, by omega⟩
       have hq2 : q < E.length := by rw [← HN.out]; omega
       have hget := shiftG_get (L := E) (j := j) (k := q + 1) (by omega) (by omega)
       simp only [Nat.add_sub_cancel] at hget
       obtain ⟨s1, s2, s3⟩ := EdgesAt.get hed hlen (k := q) (by omega) hget
       have hput := EdgesAt.put hed hlen (k := q + 1) (by omega) E[q]
       have hss := shiftG_set (L := E) (j := j) (k := q + 1) (by omega) (by omega)
       simp only [Nat.add_sub_cancel] at hss
       rw [hss] at hput
       obtain ⟨y, hy⟩ : ∃ y, y = E[q] := ⟨_, rfl⟩
       rw [← hy] at s1 s2 s3 hput
       have HPUT := Lib.hid hput
       have HGS := Lib.hid (grown_sets (a := (q + 1) * 3) (b := (q + 1) * 3 + 1) (c := (q + 1) * 3 + 2) (x := .int .i64 y.src) (y := .int .i64 y.lab) (z := .int .i64 y.dst) hgr9 HGR.out)
       have hgt2 : (m : Int) + 1 < ((q + 1 : Nat) : Int) := by omega
       have hgt3 : (m : Int) < (q : Int) := by omega
       have hq1 : (((q + 1 : Nat) : Int) - 1) = (q : Int) := by omega
       have HXP := Lib.hid (((hxb9.setOther ⟨g7, (q + 1) * 3, none⟩ (.int .i64 y.src) HXG.out).setOther ⟨g7, (q + 1) * 3 + 1, none⟩ (.int .i64 y.lab) HXG.out).setOther ⟨g7, (q + 1) * 3 + 2, none⟩ (.int .i64 y.dst) HXG.out)
       clear hed hgr9 hlen hj hget hput hss hy hq2 hxb9
       go_wp2
       go_roundw
       case rel => exact ⟨q, y, by omega, by omega, by go_num, HPUT.out, HGS.out, HXP.out⟩
       case measure => simp [intOf]
      ·have hmK : mm = (m + 1) := by omega
       subst hmK
       have hput := EdgesAt.put hed hlen (k := (m + 1)) (by omega) e
       rw [shiftG_put (by rw [← HN.out]; omega)] at hput
       have HPUT := Lib.hid hput
       have HGS := Lib.hid (grown_sets (a := (m + 1) * 3) (b := (m + 1) * 3 + 1) (c := (m + 1) * 3 + 2) (x := .int .i64 e.src) (y := .int .i64 e.lab) (z := .int .i64 e.dst) hgr9 HGR.out)
       have x1 := hxb9.cell 0 rfl
       have x2 := hxb9.cell 1 rfl
       have x3 := hxb9.cell 2 rfl
       have hxl9 := hxb9.lt
       have hge2 : ¬ (m : Int) + 1 < ((m + 1 : Nat) : Int) := by omega
       clear hed hgr9 hlen hj hput hxb9
       go_wp2
       go_ret
       have hA9 := HGS.out
       rw [HROW9.out] at hA9
       refine ⟨_, rfl, hA9, _, ?_, HPR.out⟩
       rw [put_len, ← HN.out]
       exact CellsAt.owns3 HPUT.out HGB.out HC7.out.1 HC7.out.2
  ·obtain rfl : k = 0 := by omega
   have HPR : Hid (PutIs E e (E.take 0 ++ e :: E.drop 0)) := ⟨put_rise HR.out (Nat.zero_le _) HHI.out (fun h => absurd h (Nat.lt_irrefl 0)), by rw [put_len]; exact Nat.le_refl _, put_mem⟩
   have hpos : decide ((0 : Int) < ((0 : Nat) : Int)) = false := by decide
   clear hbl
   go_wp2
   refine wp_region_later (by kernel_rfl) (by kernel_rfl) ?_
   repeat (go_big_quiet_step ((fail)))
   refine wpQuiet_nil ?_
   intro _ hw9
   obtain ⟨nl, hw8⟩ := hw9
   subst hw8
   obtain ⟨wE, hwE⟩ : ∃ wE, wE = nl.w := ⟨_, rfl⟩
   have hbE : Below wC.heap.size wC wE := by rw [hwE]; exact nl.h
   have HBE : Hid (Below wA.heap.size wA wE) := HBL.out.trans (hbE.mono hszC)
   rw [← hwE]
   clear hwE hbE hpos
   clear nl
   have HOE := Lib.hid (owns_below HO.out HBE.out)
   have hszE := HBE.out.size
   have HWE : Hid (Below w.heap.size w (wE.alloc (.cells #[.int .i64 0, .int .i64 0, .int .i64 0] 68))) := (HBA.out.trans (HBE.out.mono HBA.out.size)).alloc (Nat.le_trans HBA.out.size hszE) _
   go_wp2_with (at_builtin; refine wpList_append_own_at _ rfl _ _ 25 rfl base 68 i3 (.agg #[.int .i64 0, .int .i64 0, .int .i64 0]) 3 24 Tryz.underlying25 hi3 hz30 hz31 hz32 rfl (by decide) _ N _ rfl (HOE.out.alloc _) ⟨wE.heap.size, 0, none⟩ 1 1 [.int .i64 0, .int .i64 0, .int .i64 0] rfl rfl (World.news_of_block (cs := #[.int .i64 0, .int .i64 0, .int .i64 0]) (t := 68) (fr := (0, 0)) (heap_alloc_new _ _)) ?k2 ?k3 ?k4 ?k5 ?_)
   case k2 => first | (intro u hu; simp at hu; subst hu; rfl) | rfl
   case k3 => first | (simp [maxLen]; omega) | omega
   case k4 => omega
   case k5 => first | omega | (simp; omega)
   intro v7 w7 ho7 hg7 _ ha7
   obtain ⟨g7, c7, rfl, hgB, hgw⟩ := own_someP ho7 (by omega)
   have hfl : E.flatMap encE ++ [.int .i64 0, .int .i64 0, .int .i64 0] = (shiftG E (⟨0, 0, 0⟩ : Edge) N).flatMap encE := by
    rw [HN.out, ← shiftG_end, List.flatMap_append]
    rfl
   have hc7 : N + 1 ≤ c7 ∧ c7 ≤ maxLen := by
    obtain ⟨a, c, e9, h1, h2⟩ := owns_slice ho7
    simp only [Value.slice.injEq] at e9
    obtain ⟨-, -, rfl⟩ := e9
    exact ⟨h1, h2⟩
   rw [hfl] at ho7
   have HE7 : Hid (EdgesAt w7 g7 (N + 1) c7 (shiftG E (⟨0, 0, 0⟩ : Edge) N)) := CellsAt.of_owns3 ho7
   have HG7 : Hid (w.grownBy w7 row) := by unfold Hid; rw [HROW9.out]; exact grown_trans (grown_below HWE.out _) hg7
   have HGR : Hid (row = some g7 ∨ w.heap.size ≤ g7) := by
    unfold Hid
    rcases ha7 with h | h
    ·left; rw [HROW9.out]; exact h.symm
    ·right
     simp only [Value.ownBlock, Option.some.injEq] at h
     have := HBA.out.size
     omega
   have HXG : Hid (xb ≠ g7) := by
    unfold Hid
    rcases ha7 with h | h
    ·have := HRB.out g7 (by rw [HROW9.out]; exact h.symm)
     omega
    ·simp only [Value.ownBlock, Option.some.injEq] at h
     have := HX.out.lt
     omega
   have HX7 : Hid (Blk w7 xb [.int .i64 e.src, .int .i64 e.lab, .int .i64 e.dst] 68) := by
    have h := (HX.out.below HBE.out).alloc (.cells #[.int .i64 0, .int .i64 0, .int .i64 0] 68)
    refine (hg7.block xb h.lt fun e9 => ?_).trans h
    have := HRB.out xb (by rw [HROW9.out]; exact e9.symm)
    omega
   have HGB : Hid (base ≤ g7) := hgB
   have HC7 := Lib.hid hc7
   clear ho7 hg7 ha7 hgB hfl hc7
   go_wp2
   go_loopw [6] (fun v6 wr => ∃ (mm : Nat) (j : Edge), 0 ≤ mm ∧ mm ≤ N ∧ v6 = .int .i64 mm ∧ EdgesAt wr g7 (N + 1) c7 (shiftG E j mm) ∧ w.grownBy wr row ∧ Blk wr xb [.int .i64 e.src, .int .i64 e.lab, .int .i64 e.dst] 68) (fun v6 _ => (intOf v6).toNat)
   case atStart => exact ⟨N, ⟨0, 0, 0⟩, by omega, Nat.le_refl _, by first | rfl | go_num, HE7.out, HG7.out, HX7.out⟩
   case round =>
    obtain ⟨mm, j, hK1, hmN, rfl, hed, hgr9, hxb9⟩ := hrel
    have HXB9 := Lib.hid hxb9
    obtain ⟨w9, rfl⟩ : ∃ w9 : World, w9 = wr := ⟨_, rfl⟩
    have HED := Lib.hid hed
    have HGR9 := Lib.hid hgr9
    have hlen : (shiftG E j mm).length = N + 1 := by rw [shiftG_len, ← HN.out]
    have hj : (shiftG E j mm)[mm]? = some j := by
     unfold shiftG
     have hl : (E.take mm).length = mm := by rw [List.length_take, ← HN.out]; omega
     rw [List.getElem?_append_right (by omega), hl, Nat.sub_self]
     rfl
    obtain ⟨t1, t2, t3⟩ := EdgesAt.get hed hlen (k := mm) (by omega) hj
    have z1 := CellsAt.frozen hed (mm * 3)
    have z2 := CellsAt.frozen hed (mm * 3 + 1)
    have z3 := CellsAt.frozen hed (mm * 3 + 2)
    have hglt := CellsAt.lt hed
    by_cases hgt : 0 < mm
    ·obtain ⟨q, rfl⟩ : ∃ q, mm = q + 1 := ⟨mm - 1, by omega⟩
     have hq2 : q < E.length := by rw [← HN.out]; omega
     have hget := shiftG_get (L := E) (j := j) (k := q + 1) (by omega) (by omega)
     simp only [Nat.add_sub_cancel] at hget
     obtain ⟨s1, s2, s3⟩ := EdgesAt.get hed hlen (k := q) (by omega) hget
     have hput := EdgesAt.put hed hlen (k := q + 1) (by omega) E[q]
     have hss := shiftG_set (L := E) (j := j) (k := q + 1) (by omega) (by omega)
     simp only [Nat.add_sub_cancel] at hss
     rw [hss] at hput
     obtain ⟨y, hy⟩ : ∃ y, y = E[q] := ⟨_, rfl⟩
     rw [← hy] at s1 s2 s3 hput
     have HPUT := Lib.hid hput
     have HGS := Lib.hid (grown_sets (a := (q + 1) * 3) (b := (q + 1) * 3 + 1) (c := (q + 1) * 3 + 2) (x := .int .i64 y.src) (y := .int .i64 y.lab) (z := .int .i64 y.dst) hgr9 HGR.out)
     have hgt2 : (0 : Int) < ((q + 1 : Nat) : Int) := by omega
     have hq1 : (((q + 1 : Nat) : Int) - 1) = (q : Int) := by omega
     have HXP := Lib.hid (((hxb9.setOther ⟨g7, (q + 1) * 3, none⟩ (.int .i64 y.src) HXG.out).setOther ⟨g7, (q + 1) * 3 + 1, none⟩ (.int .i64 y.lab) HXG.out).setOther ⟨g7, (q + 1) * 3 + 2, none⟩ (.int .i64 y.dst) HXG.out)
     clear hed hgr9 hlen hj hget hput hss hy hq2 hxb9
     go_wp2
     go_roundw
     case rel => exact ⟨q, y, by omega, by omega, by go_num, HPUT.out, HGS.out, HXP.out⟩
     case measure => simp [intOf]
    ·have hmK : mm = 0 := by omega
     subst hmK
     have hput := EdgesAt.put hed hlen (k := 0) (by omega) e
     rw [shiftG_put (by rw [← HN.out]; omega)] at hput
     have HPUT := Lib.hid hput
     have HGS := Lib.hid (grown_sets (a := 0 * 3) (b := 0 * 3 + 1) (c := 0 * 3 + 2) (x := .int .i64 e.src) (y := .int .i64 e.lab) (z := .int .i64 e.dst) hgr9 HGR.out)
     have x1 := hxb9.cell 0 rfl
     have x2 := hxb9.cell 1 rfl
     have x3 := hxb9.cell 2 rfl
     have hxl9 := hxb9.lt
     have hge2 : ¬ (0 : Int) < ((0 : Nat) : Int) := by omega
     clear hed hgr9 hlen hj hput hxb9
     go_wp2
     go_ret
     have hA9 := HGS.out
     rw [HROW9.out] at hA9
     refine ⟨_, rfl, hA9, _, ?_, HPR.out⟩
     rw [put_len, ← HN.out]
     exact CellsAt.owns3 HPUT.out HGB.out HC7.out.1 HC7.out.2

end Go.Proofs.YthofaoabgbgbdaaGreatDoor

namespace Go.Proofs.YthofaoabgbgbdaaGreatDoor
open Go Go.RowKit

theorem findIdx_hit {α : Type} {p : α → Bool} {l : List α} {k : Nat} (hk : k < l.length) (h1 : ∀ j (h : j < l.length), j < k → p l[j] = false) (h2 : p l[k] = true) : l.findIdx p = k := by
 rw [List.findIdx_eq hk]
 exact ⟨h2, fun j hj => h1 j (by omega) hj⟩
theorem findIdx_none {α : Type} {p : α → Bool} {l : List α} (h1 : ∀ j (h : j < l.length), p l[j] = false) : l.findIdx p = l.length := by
 rw [List.findIdx_eq_length]
 intro x hx
 obtain ⟨j, hj, rfl⟩ := List.mem_iff_getElem.1 hx
 exact h1 j hj

/-- The first place of a text among texts, or -1. -/
def textAt (ss : List ByteArray) (s : ByteArray) : Int := if ss.findIdx (fun t => t.toList == s.toList) < ss.length then (ss.findIdx (fun t => t.toList == s.toList) : Nat) else -1

set_option maxRecDepth 100000 in
set_option maxHeartbeats 1000000 in
theorem l11Find_any (lo : Nat) (v : Value) (ss : List ByteArray) (s : ByteArray) (w : World) (hv : SliceK 1 encS lo w v ss) : Calls Tryz.prog 75 #[v, .string s] w fun e w' => e = .returned (.int .i64 (textAt ss s)) ∧ Below w.heap.size w w' := by
 obtain ⟨a, cap, rfl, hn, hcap, hrow⟩ := hv
 go_enter Tryz.func75, Tryz.ntmps75
 go_wp2
 go_loopw [5] (fun i wr => ∃ k : Nat, k ≤ ss.length ∧ i = .int .i64 k ∧ Below w.heap.size w wr ∧ ∀ j (h : j < ss.length), j < k → (ss[j].toList == s.toList) = false) (fun i _ => ss.length - (intOf i).toNat)
 case atStart => exact ⟨0, Nat.zero_le _, rfl, Below.refl _ _, fun _ _ h => by omega⟩
 case round =>
  obtain ⟨k, hk, rfl, hbl, hx⟩ := hrel
  have HX := Lib.hid hx
  have HBL := Lib.hid hbl
  have hsz := hbl.size
  clear hx
  by_cases hlt : k < ss.length
  ·obtain ⟨b, o, rfl, -, hb, c⟩ := (hrow.below hbl).one hlt
   simp only [encS, List.getElem?_cons_zero] at c
   clear hrow hbl
   cases g : (ss[k].toList == s.toList)
   ·have HG := Lib.hid g
    go_wp2
    go_roundw
    case rel => exact ⟨k + 1, by omega, by go_num, HBL.out, fun j h h' => by
      by_cases e : j = k
      ·subst e; exact HG.out
      ·exact HX.out j h (by omega)⟩
    case measure => simp [intOf]; omega
   ·have HG : Hid (textAt ss s = (k : Int)) := by
     unfold Hid textAt
     rw [findIdx_hit hlt HX.out g, if_pos hlt]
    go_wp2
    go_ret
    exact ⟨ret_int HG.out.symm, HBL.out⟩
  ·clear hrow hbl
   go_wp2
   go_ret
   refine ⟨ret_int ?_, HBL.out⟩
   unfold textAt
   rw [findIdx_none (fun j h => HX.out j h (by omega)), if_neg (by omega)]

theorem textAt_some {ss : List ByteArray} {s : ByteArray} (h : ¬ textAt ss s < 0) : ∃ n : Nat, textAt ss s = n ∧ ∃ hn : n < ss.length, ss[n].toList = s.toList := by
 unfold textAt at h ⊢
 by_cases hlt : ss.findIdx (fun t => t.toList == s.toList) < ss.length
 ·rw [if_pos hlt]
  refine ⟨_, rfl, hlt, ?_⟩
  have := List.findIdx_getElem (p := fun t : ByteArray => t.toList == s.toList) (xs := ss) (w := hlt)
  exact eq_of_beq this
 ·rw [if_neg hlt] at h
  omega
theorem textAt_neg {ss : List ByteArray} {s : ByteArray} : textAt ss s < 0 ↔ (ss.any fun t => t.toList == s.toList) = false := by
 unfold textAt
 by_cases hlt : ss.findIdx (fun t => t.toList == s.toList) < ss.length
 ·rw [if_pos hlt]
  have h1 := List.findIdx_lt_length.1 hlt
  constructor
  ·intro h; omega
  ·intro h
   rw [List.any_eq_false] at h
   obtain ⟨x, hx, hp⟩ := h1
   exact absurd hp (h x hx)
 ·rw [if_neg hlt]
  refine ⟨fun _ => ?_, fun _ => by omega⟩
  rw [List.any_eq_false]
  intro x hx hp
  exact hlt (List.findIdx_lt_length.2 ⟨x, hx, hp⟩)


end Go.Proofs.YthofaoabgbgbdaaGreatDoor

namespace Go.Proofs.YthofaoabgbgbdaaGreatDoor
open Go Go.RowKit

set_option maxRecDepth 100000 in
set_option maxHeartbeats 1000000 in
theorem l00Has_any (lo : Nat) (v : Value) (xs : List Int) (n : Int) (w : World) (hv : SliceK 1 encI lo w v xs) : Calls Tryz.prog 101 #[v, .int .i64 n] w fun e w' => e = .returned (.bool (xs.contains n)) ∧ Below w.heap.size w w' := by
 obtain ⟨a, cap, rfl, hn, hcap, hrow⟩ := hv
 go_enter Tryz.func101, Tryz.ntmps101
 go_wp2
 go_loopw [5] (fun i wr => ∃ k : Nat, k ≤ xs.length ∧ i = .int .i64 k ∧ Below w.heap.size w wr ∧ ∀ j (h : j < xs.length), j < k → xs[j] ≠ n) (fun i _ => xs.length - (intOf i).toNat)
 case atStart => exact ⟨0, Nat.zero_le _, rfl, Below.refl _ _, fun _ _ h => by omega⟩
 case round =>
  obtain ⟨k, hk, rfl, hbl, hx⟩ := hrel
  have HX := Lib.hid hx
  have HBL := Lib.hid hbl
  have hsz := hbl.size
  clear hx
  by_cases hlt : k < xs.length
  ·obtain ⟨b, o, rfl, -, hb, c⟩ := (hrow.below hbl).one hlt
   simp only [encI, List.getElem?_cons_zero] at c
   clear hrow hbl
   cases g : (xs[k] == n)
   ·have HG : Hid (xs[k] ≠ n) := by unfold Hid; simpa using g
    go_wp2
    go_roundw
    case rel => exact ⟨k + 1, by omega, by go_num, HBL.out, fun j h h' => by
      by_cases e : j = k
      ·subst e; exact HG.out
      ·exact HX.out j h (by omega)⟩
    case measure => simp [intOf]; omega
   ·have HG : Hid (xs.contains n = true) := by
     unfold Hid
     rw [List.contains_iff_mem]
     exact (eq_of_beq g) ▸ List.getElem_mem hlt
    go_wp2
    go_ret
    exact ⟨ret_bool HG.out.symm, HBL.out⟩
  ·clear hrow hbl
   go_wp2
   go_ret
   refine ⟨ret_bool ?_, HBL.out⟩
   symm
   rw [Bool.eq_false_iff]
   intro h
   rw [List.contains_iff_mem] at h
   obtain ⟨j, hj, e⟩ := List.mem_iff_getElem.1 h
   exact HX.out j hj (by omega) e

set_option maxRecDepth 100000 in
set_option maxHeartbeats 1000000 in
theorem l00Same_any (lo lo2 : Nat) (v v2 : Value) (xs ys : List Int) (w : World) (hv : SliceK 1 encI lo w v xs) (hv2 : SliceK 1 encI lo2 w v2 ys) : Calls Tryz.prog 56 #[v, v2] w fun e w' => e = .returned (.bool (xs == ys)) ∧ Below w.heap.size w w' := by
 obtain ⟨a, cap, rfl, hn, hcap, hrow⟩ := hv
 obtain ⟨a2, cap2, rfl, hn2, hcap2, hrow2⟩ := hv2
 by_cases hl : xs.length = ys.length
 ·have hl1 : ((xs.length : Int) == (ys.length : Int)) = true := by rw [beq_iff_eq]; omega
  have HL := Lib.hid hl
  rw [← hl] at hn2
  have hl2 : (ys.length : Int) = (xs.length : Int) := by omega
  clear hl
  go_enter Tryz.func56, Tryz.ntmps56
  go_wp2
  clear hl1
  go_loopw [5] (fun i wr => ∃ k : Nat, k ≤ xs.length ∧ i = .int .i64 k ∧ Below w.heap.size w wr ∧ ∀ j (h : j < xs.length) (h2 : j < ys.length), j < k → xs[j] = ys[j]) (fun i _ => xs.length - (intOf i).toNat)
  case atStart => exact ⟨0, Nat.zero_le _, rfl, Below.refl _ _, fun _ _ _ h => by omega⟩
  case round =>
   obtain ⟨k, hk, rfl, hbl, hx⟩ := hrel
   have HX := Lib.hid hx
   have HBL := Lib.hid hbl
   have hsz := hbl.size
   clear hx
   by_cases hlt : k < xs.length
   ·have hlt2 : k < ys.length := by have := HL.out; omega
    obtain ⟨b, o, rfl, -, hb, c⟩ := (hrow.below hbl).one hlt
    obtain ⟨b2, o2, rfl, -, hb2, c2⟩ := (hrow2.below hbl).one hlt2
    simp only [encI, List.getElem?_cons_zero] at c c2
    have s1 := later_cell hb c
    have s2 := later_cell hb2 c2
    clear hrow hrow2 hbl c c2
    cases g : (xs[k] == ys[k])
    ·have HG : Hid ((xs == ys) = false) := by
      unfold Hid
      rw [beq_eq_false_iff_ne] at g ⊢
      intro e
      subst e
      exact g rfl
     go_wp2
     refine wp_region_later (by kernel_rfl) (by kernel_rfl) ?_
     repeat (go_big_quiet_step ((fail)))
     refine wpQuiet_nil ?_
     intro _ hw9
     obtain ⟨nl, hw8⟩ := hw9
     subst hw8
     go_wp2
     go_ret
     exact ⟨ret_bool HG.out.symm, HBL.out.trans (nl.h.mono hsz)⟩
    ·have HG : Hid (xs[k] = ys[k]) := eq_of_beq g
     go_wp2
     refine wp_region_later (by kernel_rfl) (by kernel_rfl) ?_
     repeat (go_big_quiet_step ((fail)))
     refine wpQuiet_nil ?_
     intro _ hw9
     obtain ⟨nl, hw8⟩ := hw9
     subst hw8
     go_wp2
     go_roundw
     case rel => exact ⟨k + 1, by omega, by go_num, HBL.out.trans (nl.h.mono hsz), fun j h h2 h' => by
       by_cases e : j = k
       ·subst e; exact HG.out
       ·exact HX.out j h h2 (by omega)⟩
     case measure => simp [intOf]; omega
   ·clear hrow hrow2 hbl
    go_wp2
    go_ret
    refine ⟨ret_bool ?_, HBL.out⟩
    symm
    rw [beq_iff_eq]
    exact List.ext_getElem HL.out (fun j h1 h2 => HX.out j h1 h2 (by omega))
 ·have hl1 : ((xs.length : Int) == (ys.length : Int)) = false := by rw [beq_eq_false_iff_ne]; omega
  have HG : Hid ((xs == ys) = false) := by
   unfold Hid
   rw [beq_eq_false_iff_ne]
   exact fun e => hl (by rw [e])
  clear hl hrow hrow2
  go_enter Tryz.func56, Tryz.ntmps56
  go_wp2
  go_ret
  exact ⟨ret_bool HG.out.symm, Below.refl _ _⟩

end Go.Proofs.YthofaoabgbgbdaaGreatDoor

namespace Go.Proofs.YthofaoabgbgbdaaGreatDoor
open Go Go.RowKit

/-- An edge with its label as a text. -/
structure Arc where
 src : Int
 lab : ByteArray
 dst : Int
def encC (a : Arc) : List Value := [.int .i64 a.src, .string a.lab, .int .i64 a.dst]
theorem encC_len (a : Arc) : (encC a).length = 3 := rfl
def arcOf (t : Lts) (e : Edge) : Arc := ⟨e.src, labAt t e, e.dst⟩
def MadeTexts (xs : List ByteArray) (w : World) (e : Ending) (w' : World) : Prop :=
 ∃ v, e = .returned v ∧ Below w.heap.size w w' ∧ w'.ownsRow w.heap.size 9 1 v xs.length (xs.map Value.string)
def MadeArcs (xs : List Arc) (w : World) (e : Ending) (w' : World) : Prop :=
 ∃ v, e = .returned v ∧ Below w.heap.size w w' ∧ w'.ownsRow w.heap.size 125 3 v xs.length (xs.flatMap encC)

theorem RowK.arc {lo : Nat} {w : World} {a : Option Addr} {xs : List Arc} (h : RowK 3 encC lo w a xs) {i : Nat} (hi : i < xs.length) :
  ∃ b off, a = some ⟨b, off, none⟩ ∧ lo ≤ b ∧ b < w.heap.size ∧ w.cell? ⟨b, off + i * 3, none⟩ = some (.int .i64 xs[i].src) ∧ w.cell? ⟨b, off + i * 3 + 1, none⟩ = some (.string xs[i].lab) ∧ w.cell? ⟨b, off + i * 3 + 2, none⟩ = some (.int .i64 xs[i].dst) := by
 rcases h with h | ⟨b, off, ha, h1, h2, h3⟩
 ·omega
 ·exact ⟨b, off, ha, h1, h2, by have := h3 i hi 0 (by omega); simpa [encC] using this, by have := h3 i hi 1 (by omega); simpa [encC] using this, by have := h3 i hi 2 (by omega); simpa [encC] using this⟩
theorem info_strA : (Tryz.prog.info? 9).map (fun i => (i.zero, i.size, i.bytes)) = some (some (.string ⟨#[]⟩), 1, 16) := by kernel_rfl
theorem info_arcA : (Tryz.prog.info? 125).map (fun i => (i.zero, i.size, i.bytes)) = some (some (.agg #[.int .i64 0, .string ⟨#[]⟩, .int .i64 0]), 3, 32) := by kernel_rfl
theorem arcs_take {xs : List Arc} {k : Nat} (h : k < xs.length) : ((xs.take (k + 1)).map Arc.lab) = (xs.take k).map Arc.lab ++ [xs[k].lab] := by
 rw [List.take_succ_eq_append_getElem h, List.map_append]; rfl

set_option maxRecDepth 100000 in
set_option maxHeartbeats 2000000 in
theorem labelsOf_any (lo : Nat) (v : Value) (xs : List Arc) (w : World) (hv : SliceK 3 encC lo w v xs) (hn : xs.length ≤ 1048576) : Calls Tryz.prog 88 #[v] w (MadeTexts (xs.map Arc.lab) w) := by
 obtain ⟨a, c, rfl, hc, hc2, hrow⟩ := hv
 have HR := Lib.hid hrow
 obtain ⟨i0, hi, hz0, hz1, hz2⟩ := info_parts info_strA
 obtain ⟨N, hN⟩ : ∃ N, N = xs.length := ⟨_, rfl⟩
 rw [← hN] at hc hn ⊢
 have HN := Lib.hid hN
 clear hrow hN
 go_enter Tryz.func88, Tryz.ntmps88
 go_wp2
 go_loopw [3, 8] (fun v3 v8 wr => ∃ k : Nat, k ≤ N ∧ v8 = .int .i64 k ∧ Below w.heap.size w wr ∧ wr.ownsRow w.heap.size 9 1 v3 k (((xs.take k).map Arc.lab).map .string)) (fun _ v8 _ => N - (intOf v8).toNat)
 case atStart => exact ⟨0, Nat.zero_le _, rfl, Below.refl _ _, World.ownsRow_nil _ _ _ _⟩
 case round =>
  obtain ⟨k, hk, rfl, hbl, ho⟩ := hrel
  have HBL := Lib.hid hbl
  have HO := Lib.hid ho
  have hsz := hbl.size
  by_cases hlt : k < N
  ·have hkx : k < xs.length := by rw [← HN.out]; exact hlt
   obtain ⟨ba, oa, rfl, -, hba, e1, e2, e3⟩ := (HR.out.below hbl).arc hkx
   have HTK := Lib.hid (arcs_take hkx)
   obtain ⟨x, hx⟩ : ∃ x, x = xs[k] := ⟨_, rfl⟩
   rw [← hx] at e1 e2 e3 HTK
   obtain ⟨ls, hls⟩ : ∃ ls, ls = (xs.take k).map Arc.lab := ⟨_, rfl⟩
   rw [← hls] at HO HTK
   clear hbl ho hx hkx hls
   go_wp2_with (at_builtin; refine wpList_append_own_at _ rfl _ _ 24 rfl w.heap.size 9 i0 (.string ⟨#[]⟩) 1 16 Tryz.underlying24 hi hz0 hz1 hz2 rfl (by decide) _ _ _ rfl ((HO.out.alloc _).alloc _) ⟨wr.heap.size + 1, 0, none⟩ 1 1 [.string x.lab] rfl rfl ?c1 ?c2 ?c3 ?c4 ?c5 ?_)
   case c1 => have := cell_one_new (wr.alloc (.cells #[.int .i64 x.src, .string x.lab, .int .i64 x.dst] 125)) (.string x.lab) 9; simpa using this
   case c2 => intro u hu; simp at hu; subst hu; rfl
   case c3 => first | omega | (simp [maxLen]; omega)
   case c4 => first | omega | (simp; omega)
   case c5 => first | omega | (simp; omega)
   intro v5 w5 ho5 hg5 _ _
   have HB5 : Hid (Below w.heap.size w w5) := ((HBL.out.alloc hsz _).alloc (by simp; omega) _).grown hg5 (by simp; omega) (fun b e => (HO.out.lt b e).1)
   have HO5 : Hid (w5.ownsRow w.heap.size 9 1 v5 (k + 1) (((xs.take (k + 1)).map Arc.lab).map .string)) := by
    unfold Hid
    rw [HTK.out, List.map_append]
    exact ho5
   clear ho5 hg5
   go_wp2
   go_roundw
   case rel => exact ⟨k + 1, by omega, by go_num, HB5.out, HO5.out⟩
   case measure => simp [intOf]; omega
  ·have hkN : k = N := by omega
   have HO2 : Hid (wr.ownsRow w.heap.size 9 1 u3 (xs.map Arc.lab).length ((xs.map Arc.lab).map .string)) := by
    have := HO.out
    rw [hkN, HN.out, List.take_length] at this
    rw [List.length_map]
    exact this
   clear hbl ho
   go_wp2
   go_ret
   exact ⟨_, rfl, HBL.out, HO2.out⟩

set_option maxRecDepth 100000 in
set_option maxHeartbeats 4000000 in
theorem arcs_any (lo : Nat) (t : Lts) (lv ev : Value) (w : World) (hok : ∀ i (h : i < t.edges.length), EdgeOk t t.edges[i]) (hn : t.edges.length ≤ 1048576) (hl : SliceK 1 encS lo w lv t.labels) (he : SliceK 3 encE lo w ev t.edges) :
  Calls Tryz.prog 50 #[.agg #[.int .i64 t.states, .int .i64 t.initial, lv, ev]] w (MadeArcs (t.edges.map (arcOf t)) w) := by
 have HOK := Lib.hid hok
 obtain ⟨al, cl, rfl, hln, hlc, hlrow⟩ := hl
 obtain ⟨ae, ce, rfl, hen, hec, herow⟩ := he
 have HLR := Lib.hid hlrow
 have HER := Lib.hid herow
 obtain ⟨i0, hi, hz0, hz1, hz2⟩ := info_parts info_arcA
 obtain ⟨wB, hwB⟩ : ∃ wB, wB = w.alloc (.cells #[.int .i64 t.states, .int .i64 t.initial, .slice al t.labels.length cl, .slice ae t.edges.length ce] 27) := ⟨_, rfl⟩
 have HB0 : Hid (Below w.heap.size w wB) := by unfold Hid; rw [hwB]; exact (Below.refl _ _).alloc (Nat.le_refl _) _
 have HX0 : Hid (Blk wB w.heap.size [.int .i64 t.states, .int .i64 t.initial, .slice al t.labels.length cl, .slice ae t.edges.length ce] 27) := by unfold Hid; rw [hwB]; exact Blk.new w _ _
 have HWB := Lib.hid hwB
 obtain ⟨bx, hbx⟩ : ∃ bx, bx = w.heap.size := ⟨_, rfl⟩
 rw [← hbx] at HX0
 have HBX := Lib.hid hbx
 obtain ⟨B, hB⟩ : ∃ B, B = wB.heap.size := ⟨_, rfl⟩
 have hbxB : bx < B := by rw [hB]; exact HX0.out.lt
 have HBB := Lib.hid hB
 obtain ⟨N, hN⟩ : ∃ N, N = t.edges.length := ⟨_, rfl⟩
 obtain ⟨L, hL⟩ : ∃ L, L = t.labels.length := ⟨_, rfl⟩
 rw [← hN] at hen hn HX0 HWB ⊢
 rw [← hL] at hln HX0 HWB ⊢
 have HN := Lib.hid hN
 have HL := Lib.hid hL
 have x3 := HX0.out.cell 3 rfl
 clear hok hlrow herow hwB hbx hB hN hL
 go_enter Tryz.func50, Tryz.ntmps50
 go_wp2_with fail
 rw [← HWB.out, ← HBX.out]
 clear x3
 go_loopw [3, 9] (fun v3 v9 wr => ∃ k : Nat, k ≤ N ∧ v9 = .int .i64 k ∧ Below B wB wr ∧ wr.ownsRow B 125 3 v3 k ((((t.edges.take k).map (arcOf t)).flatMap encC))) (fun _ v9 _ => N - (intOf v9).toNat)
 case atStart => exact ⟨0, Nat.zero_le _, rfl, Below.refl _ _, World.ownsRow_nil _ _ _ _⟩
 case round =>
  obtain ⟨k, hk, rfl, hbl, ho⟩ := hrel
  have HBL := Lib.hid hbl
  have HO := Lib.hid ho
  have hsz : B ≤ wr.heap.size := by have := hbl.size; rw [HBB.out]; exact this
  by_cases hlt : k < N
  ·have hke : k < t.edges.length := by rw [← HN.out]; exact hlt
   have hbw : Below w.heap.size w wr := HB0.out.trans (hbl.mono (by rw [HBB.out]; exact HB0.out.size))
   obtain ⟨be, oe, rfl, -, hbe, e1, e2, e3⟩ := (HER.out.below hbw).edge hke
   have hek := HOK.out k hke
   obtain ⟨hll, hla⟩ := labAt_idx hek
   obtain ⟨bl, ol, rfl, -, hblw, c1⟩ := HLR.out.one hll
   simp only [encS, List.getElem?_cons_zero] at c1
   replace c1 := keeps hbw hblw c1
   have hbl2 : bl < wr.heap.size := Nat.lt_of_lt_of_le hblw hbw.size
   rw [← hla] at c1
   have hl0 : ((t.edges[k].lab.toNat : Nat) : Int) = t.edges[k].lab := by have := hek.l0; omega
   have hlL : (t.edges[k].lab.toNat : Nat) < L := by rw [HL.out]; exact hll
   have HTK : Hid (((t.edges.take (k + 1)).map (arcOf t)).flatMap encC = ((t.edges.take k).map (arcOf t)).flatMap encC ++ [.int .i64 t.edges[k].src, .string (labAt t t.edges[k]), .int .i64 t.edges[k].dst]) := by
    unfold Hid
    rw [List.take_succ_eq_append_getElem hke, List.map_append, List.flatMap_append]
    simp [encC, arcOf]
   obtain ⟨l, hl⟩ : ∃ l, l = labAt t t.edges[k] := ⟨_, rfl⟩
   rw [← hl] at c1 HTK
   obtain ⟨e, hee⟩ : ∃ e, e = t.edges[k] := ⟨_, rfl⟩
   rw [← hee] at e1 e2 e3 hl0 hlL c1 HTK
   obtain ⟨m, hm⟩ : ∃ m, m = e.lab.toNat := ⟨_, rfl⟩
   rw [← hm] at hl0 hlL c1
   rw [← hl0] at e2
   have hmL : (m : Int) < (L : Int) := by omega
   obtain ⟨fl, hfl⟩ : ∃ fl, fl = ((t.edges.take k).map (arcOf t)).flatMap encC := ⟨_, rfl⟩
   rw [← hfl] at HO HTK
   have x2 := (HX0.out.belowB hbl hbxB).cell 2 rfl
   have hbxw : bx < wr.heap.size := by omega
   obtain ⟨W1, hW1⟩ : ∃ W1, W1 = wr.alloc (.cells #[.int .i64 e.src, .int .i64 m, .int .i64 e.dst] 68) := ⟨_, rfl⟩
   have hbW : Below wr.heap.size wr W1.drew := by rw [hW1]; exact ((Below.refl _ _).alloc (Nat.le_refl _) _).drew
   have hs1 : W1.heap.size = wr.heap.size + 1 := by rw [hW1]; simp
   have hv1 : Blk W1.drew wr.heap.size [.int .i64 e.src, .int .i64 m, .int .i64 e.dst] 68 := by rw [hW1]; exact Blk.new wr _ _
   have P0 := hv1.cell 0 rfl
   have P1 := hv1.cell 1 rfl
   have P2 := hv1.cell 2 rfl
   have P3 := keeps hbW hbxw x2
   have P4 := keeps hbW hbl2 c1
   have HO1 : Hid (W1.drew.ownsRow B 125 3 u3 k fl) := owns_below HO.out hbW
   have hnew : ((W1.alloc (.cells #[.int .i64 e.src, .string l, .int .i64 e.dst] 125)).drew).heap[wr.heap.size + 1]? = some (.cells #[.int .i64 e.src, .string l, .int .i64 e.dst] 125 (0, 0)) := by
    have h1 := heap_alloc_new W1 (.cells #[.int .i64 e.src, .string l, .int .i64 e.dst] 125)
    rw [hs1] at h1
    exact h1
   have hA5 : Below W1.drew.heap.size W1.drew ((W1.alloc (.cells #[.int .i64 e.src, .string l, .int .i64 e.dst] 125)).drew) := ⟨rfl, rfl, rfl, by simp, fun k hk => Go.RowKit.Below.heap_alloc W1 _ k (by simpa using hk)⟩
   have hsd : W1.drew.heap.size = wr.heap.size + 1 := by simpa using hs1
   have R0 := keeps hA5 (by omega) P0
   have R1 := keeps hA5 (by omega) P1
   have R2 := keeps hA5 (by omega) P2
   have R3 := keeps hA5 (by omega) P3
   have R4 := keeps hA5 (by omega) P4
   have HO2 := Lib.hid (owns_below HO1.out hA5)
   have HA5 := Lib.hid hA5
   have n0 : some wr.heap.size ≠ u3.ownBlock := fun e => by have := (ho.lt _ e.symm).2; omega
   have n3 : some bx ≠ u3.ownBlock := fun e => by have := (ho.lt _ e.symm).1; omega
   have n4 : some bl ≠ u3.ownBlock := fun e => by have h1 := (ho.lt _ e.symm).1; have h2 := HB0.out.size; have h3 := HBB.out; omega
   have HW1 := Lib.hid hW1
   have HBW := Lib.hid hbW
   obtain ⟨sz, hsz1⟩ : ∃ sz, sz = wr.heap.size := ⟨_, rfl⟩
   rw [← hsz1] at P0 P1 P2 R0 R1 R2 hnew n0 hs1 hbl2 hbxw hsz
   have HSZ := Lib.hid hsz1
   clear hbl ho hbw hke hek hll hla hl hee hm hfl hW1 hbW hv1 hl0 hlL x2 c1 hsz1 hA5 hsd
   go_wp2
   rw [← HW1.out, ← HSZ.out]
   go_region_held3 (fun w' => w'.cell? ⟨sz, 0, none⟩ = some (.int .i64 e.src) ∧ w'.cell? ⟨sz, 1, none⟩ = some (.int .i64 m) ∧ w'.cell? ⟨sz, 2, none⟩ = some (.int .i64 e.dst) ∧ w'.cell? ⟨bx, 2, none⟩ = some (.slice (some ⟨bl, ol, none⟩) L cl) ∧ w'.cell? ⟨bl, ol + m, none⟩ = some (.string l))
    (first
     | (refine ⟨?_, ?_, ?_, ?_, ?_⟩ <;> assumption)
     | go_keep)
    (first
     | (refine step_append_lies _ (by rfl) _ _ _ (by rfl) B 125 i0 _ 3 32 Tryz.underlying85 hi hz0 hz1 hz2 rfl (by omega) u3 k fl (by rfl) HO2.out ⟨sz + 1, 0, none⟩ 1 1 [.int .i64 e.src, .string l, .int .i64 e.dst] (by rfl) (by rfl) (World.news_of_block (cs := #[.int .i64 e.src, .string l, .int .i64 e.dst]) (t := 125) (fr := (0, 0)) hnew) (by simp [Value.oneCell']) (by omega) (by first | omega | (simp [maxLen]; omega)) (by first | omega | (simp; omega)) (by first | omega | (simp; omega)) (sz + 2) (by first | omega | (simp; omega)) ?_; intro gg cap w5 hown5 hgrow5 hat5 hlt5; have z0 := (hgrow5.cell_far ⟨sz, 0, none⟩ (by simp; omega) n0).trans R0; have z1 := (hgrow5.cell_far ⟨sz, 1, none⟩ (by simp; omega) n0).trans R1; have z2 := (hgrow5.cell_far ⟨sz, 2, none⟩ (by simp; omega) n0).trans R2; have z3 := (hgrow5.cell_far ⟨bx, 2, none⟩ (by simp; omega) n3).trans R3; have z4 := (hgrow5.cell_far ⟨bl, ol + m, none⟩ (by simp; omega) n4).trans R4))
   all_goals (
    have hsw : B ≤ W1.drew.heap.size := by simp; omega
    have HB5 : Hid (Below B wB w5) := ((HBL.out.trans (HBW.out.mono (by rw [← HSZ.out]; exact hsz))).trans (HA5.out.mono hsw)).grown hgrow5 (by simp; omega) (fun b e => (HO2.out.lt b e).1)
    have HO5 : Hid (w5.ownsRow B 125 3 (.slice (some ⟨gg, 0, none⟩) (k + 1) cap) (k + 1) (((t.edges.take (k + 1)).map (arcOf t)).flatMap encC)) := by
     unfold Hid
     rw [HTK.out]
     exact hown5
    clear hown5 hgrow5 hat5 hlt5 z0 z1 z2 z3 z4 P0 P1 P2 P3 P4 R0 R1 R2 R3 R4 hnew
    go_wp2
    go_roundw
    case rel => exact ⟨k + 1, by omega, by go_num, HB5.out, HO5.out⟩
    case measure => simp [intOf]; omega)
  ·have hkN : k = N := by omega
   have HO2 : Hid (wr.ownsRow B 125 3 u3 (t.edges.map (arcOf t)).length ((t.edges.map (arcOf t)).flatMap encC)) := by
    have := HO.out
    rw [hkN, HN.out, List.take_length] at this
    rw [List.length_map]
    exact this
   clear hbl ho
   go_wp2
   go_ret
   exact ⟨_, rfl, HB0.out.trans (HBL.out.mono (by rw [HBB.out]; exact HB0.out.size)), own_lower HO2.out (by rw [HBB.out]; exact HB0.out.size)⟩

end Go.Proofs.YthofaoabgbgbdaaGreatDoor

namespace Go.Proofs.YthofaoabgbgbdaaGreatDoor
open Go Go.RowKit

/-- The rows lie in blocks of another type than t. -/
theorem own_type_ne {w : World} {base e size n : Nat} {v : Value} {xs : List Value} (h : w.ownsRow base e size v n xs) {b : Nat} {cs : Array Value} {t : TypeId} {f : Nat × Nat} (hb : w.heap[b]? = some (.cells cs t f)) (he : e ≠ t) : v.ownBlock = none ∨ v.ownBlock ≠ some b := by
 rcases h.2 with ⟨rfl, -⟩ | ⟨g, c, u, rfl, -, hg, -⟩
 ·exact .inl rfl
 ·refine .inr fun e1 => ?_
  simp only [Value.ownBlock, Option.some.injEq] at e1
  subst e1
  rw [hb] at hg
  simp only [Option.some.injEq, Obj.cells.injEq] at hg
  exact he hg.2.1.symm
theorem own_map_ne {w : World} {base e size n : Nat} {v : Value} {xs : List Value} (h : w.ownsRow base e size v n xs) {b : Nat} {es : Array MapEntry} {c : Nat} (hb : w.heap[b]? = some (.map es c)) : v.ownBlock = none ∨ v.ownBlock ≠ some b := by
 rcases h.2 with ⟨rfl, -⟩ | ⟨g, c, u, rfl, -, hg, -⟩
 ·exact .inl rfl
 ·refine .inr fun e1 => ?_
  simp only [Value.ownBlock, Option.some.injEq] at e1
  subst e1
  rw [hb] at hg
  cases hg

end Go.Proofs.YthofaoabgbgbdaaGreatDoor
