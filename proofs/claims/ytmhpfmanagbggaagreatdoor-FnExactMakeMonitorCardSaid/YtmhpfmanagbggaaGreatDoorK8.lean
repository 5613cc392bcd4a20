/-
  The library's sorts as lts calls them: labels sorted and made one, edges that stand in order already.
  The library's sort and Compact at edges that stand in strictly ascending order: nothing turns.
  What the implementation's labelsOf and arcs compute.
-/
import Derived.Test.YtmhpfmanagbggaaGreatDoorK7
import Derived.Test.YtmhpfmanagbggaaGreatDoorK5
import Derived.Sort.OwnSorted
import Derived.BigQuiet
import Derived.Test.YtmhpfmanagbggaaGreatDoorK6
import Derived.Laws.StructEq
import Derived.Test.YtmhpfmanagbggaaGreatDoorK3
import Derived.Deep.RegionHeld3
import Derived.Deep.AppendLies
import Derived.Maps.AppendAt
namespace Go.Proofs.YtmhpfmanagbggaaGreatDoor
open Go Go.RowKit

def mkB (l : List UInt8) : ByteArray := ⟨l.toArray⟩
theorem mkB_data (b : ByteArray) : mkB b.data.toList = b := by cases b; simp [mkB]
theorem mkB_list (l : List UInt8) : (mkB l).data.toList = l := by simp [mkB]
theorem mkB_toList (l : List UInt8) : (mkB l).toList = l := by rw [Lib.toList_data, mkB_list]
/-- A list of labels, sorted and each once. -/
def sortL (ls : List ByteArray) : List ByteArray := ((ls.map (·.data.toList)).mergeSort fun x y => !lessL y x).map mkB
def labSet (ls : List ByteArray) : List ByteArray := (Lib.compact ((ls.map (·.data.toList)).mergeSort fun x y => !lessL y x)).map mkB
theorem map_enc (zs : List (List UInt8)) : (zs.map mkB).map Value.string = zs.map encStr := by
 rw [List.map_map]
 apply List.map_congr_left
 intro x _
 simp [mkB, encStr]
theorem labSet_eq {ls m : List ByteArray} (hm : (m.map (·.data.toList)).Pairwise fun a b => lessL a b = true) (hmem : ∀ x, x ∈ ls ↔ x ∈ m) : labSet ls = m := by
 have hs : ((ls.map (·.data.toList)).mergeSort fun x y => !lessL y x).Pairwise fun a b => a = b ∨ lessL a b = true := by
  have h1 := List.pairwise_mergeSort (le := fun x y : List UInt8 => !lessL y x) (fun a b c h1 h2 => by
   simp only [Bool.not_eq_true'] at *
   have := (swo_of_total lessL_irrefl lessL_trans lessL_tri).ntrans c b a h2 h1
   exact this) (fun a b => by
   cases h : lessL b a with
   | false => simp
   | true =>
    cases h2 : lessL a b with
    | false => simp
    | true => have := lessL_trans a b a h2 h; rw [lessL_irrefl] at this; cases this) (ls.map (·.data.toList))
  refine h1.imp fun {a b} h => ?_
  simp only [Bool.not_eq_true'] at h
  cases h2 : lessL a b with
  | true => exact .inr rfl
  | false => exact .inl (lessL_tri a b h2 h)
 obtain ⟨h1, h2⟩ := compact_is (fun a b : List UInt8 => lessL a b = true) lessL_trans _ hs
 have h3 : Lib.compact ((ls.map (·.data.toList)).mergeSort fun x y => !lessL y x) = m.map (·.data.toList) := by
  refine rise_unique (fun a b : List UInt8 => lessL a b = true) (fun a h => by rw [lessL_irrefl] at h; cases h) (fun a b h k => by have := lessL_trans a b a h k; rw [lessL_irrefl] at this; cases this) _ _ h1 hm fun x => ?_
  rw [h2, List.mem_mergeSort, List.mem_map, List.mem_map]
  constructor
  ·rintro ⟨b, hb, rfl⟩; exact ⟨b, (hmem b).1 hb, rfl⟩
  ·rintro ⟨b, hb, rfl⟩; exact ⟨b, (hmem b).2 hb, rfl⟩
 unfold labSet
 rw [h3, List.map_map]
 have : (mkB ∘ fun x : ByteArray => x.data.toList) = id := by funext b; exact mkB_data b
 rw [this, List.map_id]

theorem enters_cmpL : ∀ args w, (callFunc 86 args).run Tryz.prog w = .ok (.enter 86 args) w := enters_of Tryz.func86 (by kernel_rfl) rfl
theorem enters_cmpE : ∀ args w, (callFunc 70 args).run Tryz.prog w = .ok (.enter 70 args) w := enters_of Tryz.func70 (by kernel_rfl) rfl

/-- slices.SortFunc of labels, then slices.Compact, at a list of the call's own. -/
theorem SortL_own (base : Nat) (v : Value) (xs : List ByteArray) (w : World) (ho : w.ownsRow base 9 1 v xs.length (xs.map Value.string)) (hz : xs.length ≤ 1048576) :
  Calls Tryz.prog 85 #[v, .func (.func 86) #[] #[]] w fun e w' => e = .returned (.tuple #[]) ∧ w'.ownsRow base 9 1 v xs.length ((sortL xs).map Value.string) ∧ w.grownBy w' v.ownBlock := by
 unfold sortL
 rw [map_enc]
 rw [← Lib.map_encStr] at ho
 have hl : (xs.map (·.data.toList)).length = xs.length := List.length_map ..
 rcases ho.2 with ⟨rfl, h0⟩ | ⟨g, cap, cur, rfl, hb, hg, hn, hm, hs, ht⟩
 ·have hx : xs = [] := List.eq_nil_of_length_eq_zero h0
  subst hx
  refine (Tryz.slices_SortFunc_none (α := List UInt8) none 0 _ w).mono ?_
  rintro e w' ⟨rfl, rfl⟩
  exact ⟨rfl, by simpa using ho, grown_refl _ _⟩
 ·rw [Nat.mul_one] at ht
  have hz2 : (xs.map (·.data.toList)).toArray.size = xs.length := by simp
  have hc := Tryz.slices_SortFunc_total (α := List UInt8) encStr (fun _ => rfl) cmpL swoL 86 #[] g 0 cap (xs.map (·.data.toList)).toArray w enters_cmpL
   (fun m os dk _ x y => (compareLabels_any (mkB x) (mkB y) _).mono fun e w' ⟨h1, h2⟩ => ⟨by rw [h1, mkB_toList, mkB_toList], 0, #[], by rw [← h2, Go.Sort.grow_empty]; rfl⟩)
   (holds_of_block hg (by rw [hl]; exact ht)) (Array.getElem?_eq_some_iff.1 hg).1 (by rw [hz2]; omega) (by rw [ltOf_cmpL]; exact lessL_tri)
  rw [hz2, ltOf_cmpL] at hc
  refine hc.mono ?_
  rintro e w' ⟨rfl, n, os, rfl⟩
  refine ⟨rfl, ?_, grownBy_sorted _⟩
  have := ownsRow_sorted (w := w) (n := n) (os := os) (ss := xs.map (·.data.toList)) (ts := (xs.map (·.data.toList)).mergeSort fun x y => !lessL y x) (List.length_mergeSort _) hb hg (by rw [hl]; exact hn) hm hs
  rw [hl] at this
  exact this

theorem CompactL_own (base : Nat) (v : Value) (xs : List ByteArray) (w : World) (ho : w.ownsRow base 9 1 v xs.length ((sortL xs).map Value.string)) :
  Calls Tryz.prog 87 #[v] w fun e w' => ∃ v', e = .returned v' ∧ w'.ownsRow base 9 1 v' (labSet xs).length ((labSet xs).map Value.string) ∧ w.grownBy w' v.ownBlock := by
 unfold labSet
 unfold sortL at ho
 rw [map_enc] at ho ⊢
 rw [List.length_map]
 obtain ⟨zs, hzs⟩ : ∃ zs, zs = (xs.map (·.data.toList)).mergeSort fun x y => !lessL y x := ⟨_, rfl⟩
 have hl : zs.length = xs.length := by rw [hzs, List.length_mergeSort, List.length_map]
 rw [← hzs] at ho ⊢
 have hle := Lib.compact_length_le zs
 rcases ho.2 with ⟨rfl, h0⟩ | ⟨g, cap, cur, rfl, hb, hg, hn, hm, hs, ht⟩
 ·have hx : zs = [] := List.eq_nil_of_length_eq_zero (by omega)
  rw [hx]
  refine (Tryz.slices_Compact_string_empty none 0 w).mono ?_
  rintro e w' ⟨rfl, rfl⟩
  exact ⟨_, rfl, World.ownsRow_nil _ _ _ _, grown_refl _ _⟩
 ·rw [Nat.mul_one] at ht
  have hm2 : cap ≤ 9223372036854775807 := by simpa [maxLen] using hm
  have hc := Tryz.slices_Compact_string g 0 cap zs w (holds_of_block hg (by rw [hl]; exact ht)) (by omega) (by omega)
  rw [hl] at hc
  refine hc.mono ?_
  rintro e w' ⟨rfl, q, rfl⟩
  have hc2 := Lib.ownsRow_putRow (q := q) (k := (Lib.compact zs).length) (ys := Lib.compact zs ++ List.replicate (xs.length - (Lib.compact zs).length) []) ho (by simp; omega) (by omega)
  rw [List.take_left] at hc2
  exact ⟨_, rfl, hc2, grownBy_put _⟩

end Go.Proofs.YtmhpfmanagbggaaGreatDoor

namespace Go.Proofs.YtmhpfmanagbggaaGreatDoor
open Go Go.RowKit Go.Sort

instance : Inhabited Edge := ⟨⟨0, 0, 0⟩⟩
def RiseE (es : List Edge) : Prop := es.Pairwise fun a b => edgeLess a b = true

theorem holdsE_of_own {w : World} {base g cap n : Nat} {es : List Edge} (h : w.ownsRow base 67 3 (.slice (some ⟨g, 0, none⟩) n cap) n (es.flatMap encE)) (hn : n = es.length) : HoldsK encE 3 w g 0 es.toArray := by
 subst hn
 intro t ht
 have ht' : t < es.length * 3 := by simpa using ht
 refine ⟨?_, h.frozenAt _⟩
 have hs : SliceK 3 encE base w (.slice (some ⟨g, 0, none⟩) es.length cap) es := SliceK.of_owns encE_len rfl h
 obtain ⟨a, c, e, -, -, hrow⟩ := hs
 simp only [Value.slice.injEq, true_and] at e
 obtain ⟨rfl, rfl⟩ := e
 rcases hrow with h0 | ⟨b, o, e, -, -, hc⟩
 ·omega
 ·simp only [Option.some.injEq, Addr.mk.injEq, and_true] at e
  obtain ⟨rfl, rfl⟩ := e
  have hi : t / 3 < es.length := by omega
  have h1 := hc (t / 3) hi (t % 3) (by omega)
  rw [show 0 + t / 3 * 3 + t % 3 = 0 + t from by omega] at h1
  rw [h1]
  rw [get_flatK encE 3 es.toArray t (by simpa using ht')]
  have h2 : es.toArray[t / 3]! = es[t / 3] := by rw [getElem!_pos es.toArray (t / 3) (by simpa using hi)]; simp
  rw [h2]
  have h3 : t % 3 < (encE es[t / 3]).length := by rw [encE_len]; omega
  rw [List.getElem?_eq_getElem h3]
  simp [getElem!_pos, h3]

theorem isAggE (w : World) : (isAgg 67).run Tryz.prog w = .ok true w := by kernel_rfl
theorem sizeOfE (w : World) : (Go.sizeOf 67).run Tryz.prog w = .ok 3 w := by kernel_rfl

theorem SortE_own (base : Nat) (v : Value) (es : List Edge) (w : World) (ho : w.ownsRow base 67 3 v es.length (es.flatMap encE)) (hr : RiseE es) (hz : es.length ≤ 1048576) :
  Calls Tryz.prog 89 #[v, .func (.func 70) #[] #[]] w fun e w' => e = .returned (.tuple #[]) ∧ Below w.heap.size w w' := by
 rcases ho.2 with ⟨rfl, h0⟩ | ⟨g, cap, cur, rfl, hb, hg, hn, hm, hs, ht⟩
 ·refine Calls.mono (R := fun e w' => e = .returned (.tuple #[]) ∧ w' = w) (Tryz.slices_SortFunc_edges_none (α := Edge) none 0 _ w) ?_
  rintro e w' ⟨rfl, rfl⟩
  exact ⟨rfl, Below.refl _ _⟩
 ·have hH := holdsE_of_own ho rfl
  have hz2 : es.toArray.size = es.length := by simp
  have hms : (es.mergeSort fun x y => !edgeLess y x) = es := by
   apply List.mergeSort_of_pairwise
   refine hr.imp fun {a b} h => ?_
   cases h2 : edgeLess b a with
   | false => rfl
   | true => have := edgeLess_trans a b a h h2; rw [edgeLess_irrefl] at this; cases this
  have hc := Tryz.slices_SortFunc_edges (α := Edge) 3 isAggE sizeOfE encE encE_len (fun x v hv => by simp [encE] at hv; rcases hv with rfl | rfl | rfl <;> rfl) cmpE swoE 70 #[] g 0 cap es.toArray w enters_cmpE
   (fun m os dk _ x y => (compareEdges_more x y _).mono fun e w' ⟨h1, h2, h3⟩ => ⟨h1, grow_of_below h2 h3⟩) hH (Array.getElem?_eq_some_iff.1 hg).1 (by rw [hz2]; omega) (by rw [ltOf_cmpE]; exact edgeLess_tri)
  rw [hz2, ltOf_cmpE, hms] at hc
  refine hc.mono ?_
  rintro e w' ⟨rfl, n, os, rfl⟩
  refine ⟨rfl, ?_⟩
  unfold sortWorldK
  have hps : putRowK encE 3 (Go.Sort.ahead w n) g 0 es.toArray = Go.Sort.ahead w n := putRow_self id _ g 0 _ hH
  rw [hps]
  exact Lib.below_grow w.heap.size w (Nat.le_refl _) n os

theorem eqEdge (x y : Edge) (w : World) : (binOp .eql 67 (.agg #[.int .i64 x.src, .int .i64 x.lab, .int .i64 x.dst]) (.agg #[.int .i64 y.src, .int .i64 y.lab, .int .i64 y.dst])).run Tryz.prog w = .ok (.bool (x.src == y.src && x.lab == y.lab && x.dst == y.dst)) w := by
 have u3 := Tryz.underlying2
 have hS : Tryz.prog.underlying 67 = some (.struct (Tryz.prog.fieldsOf 67)) := by kernel_rfl
 have hp : Tryz.prog.stoodInHeld 67 = false := by kernel_rfl
 rw [run_eql_struct, show (10000 : Nat) = 9999 + 1 from rfl, run_equalIn_agg w 9999 67 _ _ hS hp]
 simp only [Program.fieldsOf, Tryz.underlying67]
 go_simp
 by_cases h1 : x.src = y.src <;> by_cases h2 : x.lab = y.lab <;> by_cases h3 : x.dst = y.dst <;> simp [h1, h2, h3]
theorem guardEdge (op : BinOp) (a b : Operand) (xs ys : Array Value) (w : World) : (eqGuard op 67 a b (.agg xs) (.agg ys)).run Tryz.prog w = .ok () w := run_eqGuard_agg w op 67 a b xs ys (by kernel_rfl)
theorem rise_ne {es : List Edge} (h : RiseE es) {i : Nat} (hi : i + 1 < es.length) : es[i + 1] ≠ es[i] := by
 intro e
 have := List.pairwise_iff_getElem.1 h i (i + 1) (by omega) hi (by omega)
 rw [e, edgeLess_irrefl] at this
 cases this

set_option maxRecDepth 100000 in
set_option maxHeartbeats 2000000 in
theorem CompactE_own (base : Nat) (v : Value) (es : List Edge) (w : World) (ho : w.ownsRow base 67 3 v es.length (es.flatMap encE)) (hr : RiseE es) (hz : es.length ≤ 1048576) :
  Calls Tryz.prog 90 #[v] w fun e w' => e = .returned v ∧ Below w.heap.size w w' := by
 obtain ⟨a, c, rfl, -, -⟩ := owns_slice ho
 have HO := Lib.hid ho
 have HR := Lib.hid hr
 obtain ⟨N, hN⟩ : ∃ N, N = es.length := ⟨_, rfl⟩
 rw [← hN] at HO hz ⊢
 have HN := Lib.hid hN
 clear ho hr hN
 by_cases h2 : N < 2
 ·go_enter Tryz.func90, Tryz.ntmps90
  go_wp2
  go_ret
  exact ⟨rfl, Below.refl _ _⟩
 ·go_enter Tryz.func90, Tryz.ntmps90
  go_wp2
  go_loopw [3] (fun v3 wr => ∃ k : Nat, 1 ≤ k ∧ k ≤ N ∧ v3 = .int .i64 k ∧ Below w.heap.size w wr) (fun v3 _ => N - (intOf v3).toNat)
  case atStart => exact ⟨1, Nat.le_refl _, by omega, rfl, Below.refl _ _⟩
  case round =>
   obtain ⟨k, hk1, hk, rfl, hbl⟩ := hrel
   have HBL := Lib.hid hbl
   by_cases hlt : k < N
   ·obtain ⟨j, rfl⟩ : ∃ j, k = j + 1 := ⟨k - 1, by omega⟩
    have hj1 : j + 1 < es.length := by rw [← HN.out]; exact hlt
    have hne := rise_ne HR.out hj1
    obtain ⟨b, rfl, hb, e1, e2, e3⟩ := own_edge20 (owns_below HO.out hbl) HN.out hj1
    obtain ⟨b', eb, -, f1, f2, f3⟩ := own_edge20 (owns_below HO.out hbl) HN.out (show j < es.length by omega)
    simp only [Option.some.injEq, Addr.mk.injEq, and_true] at eb
    subst eb
    obtain ⟨x, hx⟩ : ∃ x, x = es[j + 1] := ⟨_, rfl⟩
    obtain ⟨y, hy⟩ : ∃ y, y = es[j] := ⟨_, rfl⟩
    rw [← hx] at e1 e2 e3 hne
    rw [← hy] at f1 f2 f3 hne
    have hq : (x.src == y.src && x.lab == y.lab && x.dst == y.dst) = false := by
     rw [Bool.eq_false_iff]
     intro h
     simp only [Bool.and_eq_true, beq_iff_eq] at h
     obtain ⟨⟨h1, h2⟩, h3⟩ := h
     apply hne
     cases x; cases y
     simp only at h1 h2 h3
     subst h1 h2 h3
     rfl
    have hE := fun w' => eqEdge x y w'
    rw [hq] at hE
    have hGd := fun (op : BinOp) (a b : Operand) (w : World) => guardEdge op a b #[.int .i64 x.src, .int .i64 x.lab, .int .i64 x.dst] #[.int .i64 y.src, .int .i64 y.lab, .int .i64 y.dst] w
    have le1 := later_cell hb e1
    have le2 := later_cell hb e2
    have le3 := later_cell hb e3
    have lf1 := later_cell hb f1
    have lf2 := later_cell hb f2
    have lf3 := later_cell hb f3
    have hsz := hbl.size
    have hjN : ((j + 1 : Nat) : Int) < (N : Int) := by omega
    have hjN2 : (j : Int) < (N : Int) := by omega
    have hj3 : ((j + 1 : Nat) : Int) = (j : Int) + 1 := by omega
    clear hne hq hx hy e1 e2 e3 f1 f2 f3 hbl hj1
    go_wp2
    refine wp_region_later (by kernel_rfl) (by kernel_rfl) ?_
    repeat (go_big_quiet_step ((fail)))
    refine wpQuiet_nil ?_
    intro _ hw9
    obtain ⟨nl, hw8⟩ := hw9
    subst hw8
    go_wp2
    go_roundw
    case rel => exact ⟨j + 1 + 1, by omega, by omega, by go_num, HBL.out.trans (nl.h.mono hsz)⟩
    case measure => simp [intOf]; omega
   ·go_wp2
    go_ret
    exact ⟨rfl, HBL.out⟩

end Go.Proofs.YtmhpfmanagbggaaGreatDoor

namespace Go.Proofs.YtmhpfmanagbggaaGreatDoor
open Go Go.RowKit

/-- An edge with its label as a text. -/
structure Arc where
 src : Int
 lab : ByteArray
 dst : Int
def encC (a : Arc) : List Value := [.int .i64 a.src, .string a.lab, .int .i64 a.dst]
theorem encC_len (a : Arc) : (encC a).length = 3 := rfl
def arcOf (t : Lts) (e : Edge) : Arc := ⟨e.src, labAt t e, e.dst⟩
def MadeTexts (xs : List ByteArray) (w : World) (e : Ending) (w' : World) : Prop :=
 ∃ v, e = .returned v ∧ Below w.heap.size w w' ∧ w'.ownsRow w.heap.size 9 1 v xs.length (xs.map Value.string)
def MadeArcs (xs : List Arc) (w : World) (e : Ending) (w' : World) : Prop :=
 ∃ v, e = .returned v ∧ Below w.heap.size w w' ∧ w'.ownsRow w.heap.size 119 3 v xs.length (xs.flatMap encC)

theorem RowK.arc {lo : Nat} {w : World} {a : Option Addr} {xs : List Arc} (h : RowK 3 encC lo w a xs) {i : Nat} (hi : i < xs.length) :
  ∃ b off, a = some ⟨b, off, none⟩ ∧ lo ≤ b ∧ b < w.heap.size ∧ w.cell? ⟨b, off + i * 3, none⟩ = some (.int .i64 xs[i].src) ∧ w.cell? ⟨b, off + i * 3 + 1, none⟩ = some (.string xs[i].lab) ∧ w.cell? ⟨b, off + i * 3 + 2, none⟩ = some (.int .i64 xs[i].dst) := by
 rcases h with h | ⟨b, off, ha, h1, h2, h3⟩
 ·omega
 ·exact ⟨b, off, ha, h1, h2, by have := h3 i hi 0 (by omega); simpa [encC] using this, by have := h3 i hi 1 (by omega); simpa [encC] using this, by have := h3 i hi 2 (by omega); simpa [encC] using this⟩
theorem info_strA : (Tryz.prog.info? 9).map (fun i => (i.zero, i.size, i.bytes)) = some (some (.string ⟨#[]⟩), 1, 16) := by kernel_rfl
theorem info_arcA : (Tryz.prog.info? 119).map (fun i => (i.zero, i.size, i.bytes)) = some (some (.agg #[.int .i64 0, .string ⟨#[]⟩, .int .i64 0]), 3, 32) := by kernel_rfl
theorem arcs_take {xs : List Arc} {k : Nat} (h : k < xs.length) : ((xs.take (k + 1)).map Arc.lab) = (xs.take k).map Arc.lab ++ [xs[k].lab] := by
 rw [List.take_succ_eq_append_getElem h, List.map_append]; rfl

set_option maxRecDepth 100000 in
set_option maxHeartbeats 2000000 in
theorem labelsOf_any (lo : Nat) (v : Value) (xs : List Arc) (w : World) (hv : SliceK 3 encC lo w v xs) (hn : xs.length ≤ 1048576) : Calls Tryz.prog 81 #[v] w (MadeTexts (xs.map Arc.lab) w) := by
 obtain ⟨a, c, rfl, hc, hc2, hrow⟩ := hv
 have HR := Lib.hid hrow
 obtain ⟨i0, hi, hz0, hz1, hz2⟩ := info_parts info_strA
 obtain ⟨N, hN⟩ : ∃ N, N = xs.length := ⟨_, rfl⟩
 rw [← hN] at hc hn ⊢
 have HN := Lib.hid hN
 clear hrow hN
 go_enter Tryz.func81, Tryz.ntmps81
 go_wp2
 go_loopw [3, 8] (fun v3 v8 wr => ∃ k : Nat, k ≤ N ∧ v8 = .int .i64 k ∧ Below w.heap.size w wr ∧ wr.ownsRow w.heap.size 9 1 v3 k (((xs.take k).map Arc.lab).map .string)) (fun _ v8 _ => N - (intOf v8).toNat)
 case atStart => exact ⟨0, Nat.zero_le _, rfl, Below.refl _ _, World.ownsRow_nil _ _ _ _⟩
 case round =>
  obtain ⟨k, hk, rfl, hbl, ho⟩ := hrel
  have HBL := Lib.hid hbl
  have HO := Lib.hid ho
  have hsz := hbl.size
  by_cases hlt : k < N
  ·have hkx : k < xs.length := by rw [← HN.out]; exact hlt
   obtain ⟨ba, oa, rfl, -, hba, e1, e2, e3⟩ := (HR.out.below hbl).arc hkx
   have HTK := Lib.hid (arcs_take hkx)
   obtain ⟨x, hx⟩ : ∃ x, x = xs[k] := ⟨_, rfl⟩
   rw [← hx] at e1 e2 e3 HTK
   obtain ⟨ls, hls⟩ : ∃ ls, ls = (xs.take k).map Arc.lab := ⟨_, rfl⟩
   rw [← hls] at HO HTK
   clear hbl ho hx hkx hls
   go_wp2_with (at_builtin; refine wpList_append_own_at _ rfl _ _ 22 rfl w.heap.size 9 i0 (.string ⟨#[]⟩) 1 16 Tryz.underlying22 hi hz0 hz1 hz2 rfl (by decide) _ _ _ rfl ((HO.out.alloc _).alloc _) ⟨wr.heap.size + 1, 0, none⟩ 1 1 [.string x.lab] rfl rfl ?c1 ?c2 ?c3 ?c4 ?c5 ?_)
   case c1 => have := cell_one_new (wr.alloc (.cells #[.int .i64 x.src, .string x.lab, .int .i64 x.dst] 119)) (.string x.lab) 9; simpa using this
   case c2 => intro u hu; simp at hu; subst hu; rfl
   case c3 => first | omega | (simp [maxLen]; omega)
   case c4 => first | omega | (simp; omega)
   case c5 => first | omega | (simp; omega)
   intro v5 w5 ho5 hg5 _ _
   have HB5 : Hid (Below w.heap.size w w5) := ((HBL.out.alloc hsz _).alloc (by simp; omega) _).grown hg5 (by simp; omega) (fun b e => (HO.out.lt b e).1)
   have HO5 : Hid (w5.ownsRow w.heap.size 9 1 v5 (k + 1) (((xs.take (k + 1)).map Arc.lab).map .string)) := by
    unfold Hid
    rw [HTK.out, List.map_append]
    exact ho5
   clear ho5 hg5
   go_wp2
   go_roundw
   case rel => exact ⟨k + 1, by omega, by go_num, HB5.out, HO5.out⟩
   case measure => simp [intOf]; omega
  ·have hkN : k = N := by omega
   have HO2 : Hid (wr.ownsRow w.heap.size 9 1 u3 (xs.map Arc.lab).length ((xs.map Arc.lab).map .string)) := by
    have := HO.out
    rw [hkN, HN.out, List.take_length] at this
    rw [List.length_map]
    exact this
   clear hbl ho
   go_wp2
   go_ret
   exact ⟨_, rfl, HBL.out, HO2.out⟩

set_option maxRecDepth 100000 in
set_option maxHeartbeats 4000000 in
theorem arcs_any (lo : Nat) (t : Lts) (lv ev : Value) (w : World) (hok : ∀ i (h : i < t.edges.length), EdgeOk t t.edges[i]) (hn : t.edges.length ≤ 1048576) (hl : SliceK 1 encS lo w lv t.labels) (he : SliceK 3 encE lo w ev t.edges) :
  Calls Tryz.prog 52 #[.agg #[.int .i64 t.states, .int .i64 t.initial, lv, ev]] w (MadeArcs (t.edges.map (arcOf t)) w) := by
 have HOK := Lib.hid hok
 obtain ⟨al, cl, rfl, hln, hlc, hlrow⟩ := hl
 obtain ⟨ae, ce, rfl, hen, hec, herow⟩ := he
 have HLR := Lib.hid hlrow
 have HER := Lib.hid herow
 obtain ⟨i0, hi, hz0, hz1, hz2⟩ := info_parts info_arcA
 obtain ⟨wB, hwB⟩ : ∃ wB, wB = w.alloc (.cells #[.int .i64 t.states, .int .i64 t.initial, .slice al t.labels.length cl, .slice ae t.edges.length ce] 29) := ⟨_, rfl⟩
 have HB0 : Hid (Below w.heap.size w wB) := by unfold Hid; rw [hwB]; exact (Below.refl _ _).alloc (Nat.le_refl _) _
 have HX0 : Hid (Blk wB w.heap.size [.int .i64 t.states, .int .i64 t.initial, .slice al t.labels.length cl, .slice ae t.edges.length ce] 29) := by unfold Hid; rw [hwB]; exact Blk.new w _ _
 have HWB := Lib.hid hwB
 obtain ⟨bx, hbx⟩ : ∃ bx, bx = w.heap.size := ⟨_, rfl⟩
 rw [← hbx] at HX0
 have HBX := Lib.hid hbx
 obtain ⟨B, hB⟩ : ∃ B, B = wB.heap.size := ⟨_, rfl⟩
 have hbxB : bx < B := by rw [hB]; exact HX0.out.lt
 have HBB := Lib.hid hB
 obtain ⟨N, hN⟩ : ∃ N, N = t.edges.length := ⟨_, rfl⟩
 obtain ⟨L, hL⟩ : ∃ L, L = t.labels.length := ⟨_, rfl⟩
 rw [← hN] at hen hn HX0 HWB ⊢
 rw [← hL] at hln HX0 HWB ⊢
 have HN := Lib.hid hN
 have HL := Lib.hid hL
 have x3 := HX0.out.cell 3 rfl
 clear hok hlrow herow hwB hbx hB hN hL
 go_enter Tryz.func52, Tryz.ntmps52
 go_wp2_with fail
 rw [← HWB.out, ← HBX.out]
 clear x3
 go_loopw [3, 9] (fun v3 v9 wr => ∃ k : Nat, k ≤ N ∧ v9 = .int .i64 k ∧ Below B wB wr ∧ wr.ownsRow B 119 3 v3 k ((((t.edges.take k).map (arcOf t)).flatMap encC))) (fun _ v9 _ => N - (intOf v9).toNat)
 case atStart => exact ⟨0, Nat.zero_le _, rfl, Below.refl _ _, World.ownsRow_nil _ _ _ _⟩
 case round =>
  obtain ⟨k, hk, rfl, hbl, ho⟩ := hrel
  have HBL := Lib.hid hbl
  have HO := Lib.hid ho
  have hsz : B ≤ wr.heap.size := by have := hbl.size; rw [HBB.out]; exact this
  by_cases hlt : k < N
  ·have hke : k < t.edges.length := by rw [← HN.out]; exact hlt
   have hbw : Below w.heap.size w wr := HB0.out.trans (hbl.mono (by rw [HBB.out]; exact HB0.out.size))
   obtain ⟨be, oe, rfl, -, hbe, e1, e2, e3⟩ := (HER.out.below hbw).edge hke
   have hek := HOK.out k hke
   obtain ⟨hll, hla⟩ := labAt_idx hek
   obtain ⟨bl, ol, rfl, -, hblw, c1⟩ := HLR.out.one hll
   simp only [encS, List.getElem?_cons_zero] at c1
   replace c1 := keeps hbw hblw c1
   have hbl2 : bl < wr.heap.size := Nat.lt_of_lt_of_le hblw hbw.size
   rw [← hla] at c1
   have hl0 : ((t.edges[k].lab.toNat : Nat) : Int) = t.edges[k].lab := by have := hek.l0; omega
   have hlL : (t.edges[k].lab.toNat : Nat) < L := by rw [HL.out]; exact hll
   have HTK : Hid (((t.edges.take (k + 1)).map (arcOf t)).flatMap encC = ((t.edges.take k).map (arcOf t)).flatMap encC ++ [.int .i64 t.edges[k].src, .string (labAt t t.edges[k]), .int .i64 t.edges[k].dst]) := by
    unfold Hid
    rw [List.take_succ_eq_append_getElem hke, List.map_append, List.flatMap_append]
    simp [encC, arcOf]
   obtain ⟨l, hl⟩ : ∃ l, l = labAt t t.edges[k] := ⟨_, rfl⟩
   rw [← hl] at c1 HTK
   obtain ⟨e, hee⟩ : ∃ e, e = t.edges[k] := ⟨_, rfl⟩
   rw [← hee] at e1 e2 e3 hl0 hlL c1 HTK
   obtain ⟨m, hm⟩ : ∃ m, m = e.lab.toNat := ⟨_, rfl⟩
   rw [← hm] at hl0 hlL c1
   rw [← hl0] at e2
   have hmL : (m : Int) < (L : Int) := by omega
   obtain ⟨fl, hfl⟩ : ∃ fl, fl = ((t.edges.take k).map (arcOf t)).flatMap encC := ⟨_, rfl⟩
   rw [← hfl] at HO HTK
   have x2 := (HX0.out.belowB hbl hbxB).cell 2 rfl
   have hbxw : bx < wr.heap.size := by omega
   obtain ⟨W1, hW1⟩ : ∃ W1, W1 = wr.alloc (.cells #[.int .i64 e.src, .int .i64 m, .int .i64 e.dst] 67) := ⟨_, rfl⟩
   have hbW : Below wr.heap.size wr W1.drew := by rw [hW1]; exact ((Below.refl _ _).alloc (Nat.le_refl _) _).drew
   have hs1 : W1.heap.size = wr.heap.size + 1 := by rw [hW1]; simp
   have hv1 : Blk W1.drew wr.heap.size [.int .i64 e.src, .int .i64 m, .int .i64 e.dst] 67 := by rw [hW1]; exact Blk.new wr _ _
   have P0 := hv1.cell 0 rfl
   have P1 := hv1.cell 1 rfl
   have P2 := hv1.cell 2 rfl
   have P3 := keeps hbW hbxw x2
   have P4 := keeps hbW hbl2 c1
   have HO1 : Hid (W1.drew.ownsRow B 119 3 u3 k fl) := owns_below HO.out hbW
   have hnew : ((W1.alloc (.cells #[.int .i64 e.src, .string l, .int .i64 e.dst] 119)).drew).heap[wr.heap.size + 1]? = some (.cells #[.int .i64 e.src, .string l, .int .i64 e.dst] 119 (0, 0)) := by
    have h1 := heap_alloc_new W1 (.cells #[.int .i64 e.src, .string l, .int .i64 e.dst] 119)
    rw [hs1] at h1
    exact h1
   have hA5 : Below W1.drew.heap.size W1.drew ((W1.alloc (.cells #[.int .i64 e.src, .string l, .int .i64 e.dst] 119)).drew) := ⟨rfl, rfl, rfl, by simp, fun k hk => Go.RowKit.Below.heap_alloc W1 _ k (by simpa using hk)⟩
   have hsd : W1.drew.heap.size = wr.heap.size + 1 := by simpa using hs1
   have R0 := keeps hA5 (by omega) P0
   have R1 := keeps hA5 (by omega) P1
   have R2 := keeps hA5 (by omega) P2
   have R3 := keeps hA5 (by omega) P3
   have R4 := keeps hA5 (by omega) P4
   have HO2 := Lib.hid (owns_below HO1.out hA5)
   have HA5 := Lib.hid hA5
   have n0 : some wr.heap.size ≠ u3.ownBlock := fun e => by have := (ho.lt _ e.symm).2; omega
   have n3 : some bx ≠ u3.ownBlock := fun e => by have := (ho.lt _ e.symm).1; omega
   have n4 : some bl ≠ u3.ownBlock := fun e => by have h1 := (ho.lt _ e.symm).1; have h2 := HB0.out.size; have h3 := HBB.out; omega
   have HW1 := Lib.hid hW1
   have HBW := Lib.hid hbW
   obtain ⟨sz, hsz1⟩ : ∃ sz, sz = wr.heap.size := ⟨_, rfl⟩
   rw [← hsz1] at P0 P1 P2 R0 R1 R2 hnew n0 hs1 hbl2 hbxw hsz
   have HSZ := Lib.hid hsz1
   clear hbl ho hbw hke hek hll hla hl hee hm hfl hW1 hbW hv1 hl0 hlL x2 c1 hsz1 hA5 hsd
   go_wp2
   rw [← HW1.out, ← HSZ.out]
   go_region_held3 (fun w' => w'.cell? ⟨sz, 0, none⟩ = some (.int .i64 e.src) ∧ w'.cell? ⟨sz, 1, none⟩ = some (.int .i64 m) ∧ w'.cell? ⟨sz, 2, none⟩ = some (.int .i64 e.dst) ∧ w'.cell? ⟨bx, 2, none⟩ = some (.slice (some ⟨bl, ol, none⟩) L cl) ∧ w'.cell? ⟨bl, ol + m, none⟩ = some (.string l))
    (first
     | (refine ⟨?_, ?_, ?_, ?_, ?_⟩ <;> assumption)
     | go_keep)
    (first
     | (refine step_append_lies _ (by rfl) _ _ _ (by rfl) B 119 i0 _ 3 32 Tryz.underlying91 hi hz0 hz1 hz2 rfl (by omega) u3 k fl (by rfl) HO2.out ⟨sz + 1, 0, none⟩ 1 1 [.int .i64 e.src, .string l, .int .i64 e.dst] (by rfl) (by rfl) (World.news_of_block (cs := #[.int .i64 e.src, .string l, .int .i64 e.dst]) (t := 119) (fr := (0, 0)) hnew) (by simp [Value.oneCell']) (by omega) (by first | omega | (simp [maxLen]; omega)) (by first | omega | (simp; omega)) (by first | omega | (simp; omega)) (sz + 2) (by first | omega | (simp; omega)) ?_; intro gg cap w5 hown5 hgrow5 hat5 hlt5; have z0 := (hgrow5.cell_far ⟨sz, 0, none⟩ (by simp; omega) n0).trans R0; have z1 := (hgrow5.cell_far ⟨sz, 1, none⟩ (by simp; omega) n0).trans R1; have z2 := (hgrow5.cell_far ⟨sz, 2, none⟩ (by simp; omega) n0).trans R2; have z3 := (hgrow5.cell_far ⟨bx, 2, none⟩ (by simp; omega) n3).trans R3; have z4 := (hgrow5.cell_far ⟨bl, ol + m, none⟩ (by simp; omega) n4).trans R4))
   all_goals (
    have hsw : B ≤ W1.drew.heap.size := by simp; omega
    have HB5 : Hid (Below B wB w5) := ((HBL.out.trans (HBW.out.mono (by rw [← HSZ.out]; exact hsz))).trans (HA5.out.mono hsw)).grown hgrow5 (by simp; omega) (fun b e => (HO2.out.lt b e).1)
    have HO5 : Hid (w5.ownsRow B 119 3 (.slice (some ⟨gg, 0, none⟩) (k + 1) cap) (k + 1) (((t.edges.take (k + 1)).map (arcOf t)).flatMap encC)) := by
     unfold Hid
     rw [HTK.out]
     exact hown5
    clear hown5 hgrow5 hat5 hlt5 z0 z1 z2 z3 z4 P0 P1 P2 P3 P4 R0 R1 R2 R3 R4 hnew
    go_wp2
    go_roundw
    case rel => exact ⟨k + 1, by omega, by go_num, HB5.out, HO5.out⟩
    case measure => simp [intOf]; omega)
  ·have hkN : k = N := by omega
   have HO2 : Hid (wr.ownsRow B 119 3 u3 (t.edges.map (arcOf t)).length ((t.edges.map (arcOf t)).flatMap encC)) := by
    have := HO.out
    rw [hkN, HN.out, List.take_length] at this
    rw [List.length_map]
    exact this
   clear hbl ho
   go_wp2
   go_ret
   exact ⟨_, rfl, HB0.out.trans (HBL.out.mono (by rw [HBB.out]; exact HB0.out.size)), own_lower HO2.out (by rw [HBB.out]; exact HB0.out.size)⟩

end Go.Proofs.YtmhpfmanagbggaaGreatDoor
