/-
  Ranging over a set of pairs: the step with the pair written out; the number of pairs.
  The library's slices.IndexFunc and slices.ContainsFunc at a slice of numbers, with a function that may lay blocks of its own.
  The program's strongly: an edge is answered by an edge of the same label whose end is in the relation.
  What the implementation's out computes: the edges from a state.
  Regions that draw their order, whose operations are quiet in a class of worlds, but for a tail in one forced order.
  The program's answered and simulated (plain simulations).
-/
import Derived.Test.YtbjbjbnbapeajaaGreatDoorP5
import Derived.Test.YtbjbjbnbapeajaaGreatDoorProg
import Derived.Test.YtbjbjbnbapeajaaGreatDoorP1
import Derived.Test.YtbjbjbnbapeajaaGreatDoorP3
import Derived.StillTail
namespace Go.Proofs.YtbjbjbnbapeajaaGreatDoor
open Go Go.RowKit Go.ChangeMaps Go.MapKept

theorem wpList_next_pairs {w : World} {b : Nat} {ps : List (Int × Int)} {ops : Array Oper} {rest : List Oper} {o : Oper} {a : Act} {Q : Exit → Act → World → Prop} (hg : o.guard = none) (it : Operand) (hop : o.op = Op.next it false) {r : Nat} {seen : Array Nat} (hit : a.eval it = .pointer (some ⟨r, 0, none⟩)) (h : PairMap w b ps) (hi : IterG w r b ps.length seen)
  (hDone : (∀ i, i < ps.length → i ∈ seen) → wpList Tryz.prog ops Q rest (a.put o.dst (.tuple #[.bool false])) w)
  (hMore : ∀ (i : Nat) (hlt : i < ps.length) (x y : Int) (w' : World), ps[i] = (x, y) → i ∉ seen → IterG w' r b ps.length (seen.push i) → w.grownBy w' (some r) → (Instr.entry (.pointer (some ⟨r, 0, none⟩))).run Tryz.prog w' = .ok (.tuple #[.agg #[.int .i64 x, .int .i64 y], .bool true]) w' →
   wpList Tryz.prog ops Q rest (a.put o.dst (.tuple #[.bool true, .agg #[.int .i64 x, .int .i64 y], .bool true])) w') :
  wpList Tryz.prog ops Q (o :: rest) a w := by
 have hl : (ps.map key2).length = ps.length := List.length_map _
 refine wpList_next_set hg it hop hit h.map (by rw [hl]; exact hi) (fun hd => hDone (fun i hi' => hd i (by rw [hl]; exact hi'))) (fun i hlt w' hn hi' hgr hen => ?_)
 have hlt' : i < ps.length := by rw [← hl]; exact hlt
 obtain ⟨x, y, hxy⟩ : ∃ x y, ps[i] = (x, y) := ⟨_, _, rfl⟩
 have hk : (ps.map key2)[i] = .agg #[.int .i64 x, .int .i64 y] := by rw [List.getElem_map, hxy]; rfl
 rw [hk] at hen ⊢
 rw [hl] at hi'
 exact hMore i hlt' x y w' hxy hn hi' hgr hen
theorem wpList_range_pairs {w : World} {b : Nat} {ps : List (Int × Int)} {ops : Array Oper} {rest : List Oper} {o : Oper} {a : Act} {Q : Exit → Act → World → Prop} (hg : o.guard = none) (m : Operand) (hop : o.op = Op.range 64 m) (hm : a.eval m = .map (some b)) (h : PairMap w b ps)
  (hK : wpList Tryz.prog ops Q rest (a.put o.dst (.pointer (some ⟨w.heap.size, 0, none⟩))) (w.alloc (.mapIter (some b) ps.length #[] ps.length))) :
  wpList Tryz.prog ops Q (o :: rest) a w := by
 have hl : (ps.map key2).length = ps.length := List.length_map _
 have h2 := wpList_range_set (P := Tryz.prog) (ops := ops) (rest := rest) (Q := Q) hg m hop underMap2 hm h.map
 rw [hl] at h2
 exact h2 hK
theorem PairMap.len {w : World} {b : Nat} {ps : List (Int × Int)} (h : PairMap w b ps) (ty : TypeId) : (Builtin.len_ #[64] ty #[.map (some b)]).run Tryz.prog w = .ok (.int .i64 ps.length) w := by
 have hb : w.heap[b]? = some (.map (entG (ps.map key2)) (ps.map key2).length) := h.map
 have hs : (entG (ps.map key2)).size = ps.length := by rw [entG_size, List.length_map]
 simp [Builtin.len_, run_underlying underMap2, MapKept.run_getObj_map hb, goInt, Result.andThen, hs]

theorem blk_set_ne {w : World} {b m : Nat} {cs : List Value} {t : TypeId} {ks : List Value} (h : Blk w b cs t) (k : SetMap w m ks) : b ≠ m := by
 intro e
 subst e
 unfold Blk at h
 unfold SetMap at k
 rw [h] at k
 cases k
theorem set_iter_ne {w : World} {b r m n : Nat} {ks : List Value} {seen : Array Nat} (h : SetMap w b ks) (k : IterG w r m n seen) : b ≠ r := by
 intro e
 subst e
 unfold SetMap at h
 unfold IterG at k
 rw [h] at k
 cases k
theorem blk_iter_ne {w : World} {b r m n : Nat} {cs : List Value} {t : TypeId} {seen : Array Nat} (h : Blk w b cs t) (k : IterG w r m n seen) : b ≠ r := by
 intro e
 subst e
 unfold Blk at h
 unfold IterG at k
 rw [h] at k
 cases k
theorem blk_type_ne {w : World} {b c : Nat} {cs ds : List Value} {t u : TypeId} (h : Blk w b cs t) (k : Blk w c ds u) (ht : t ≠ u) : b ≠ c := by
 intro e
 subst e
 unfold Blk at h k
 rw [h] at k
 simp only [Option.some.injEq, Obj.cells.injEq] at k
 exact ht k.2.1
theorem blk_grown {w w' : World} {b m : Nat} {cs : List Value} {t : TypeId} (h : Blk w b cs t) (hg : w.grownBy w' (some m)) (hne : b ≠ m) : Blk w' b cs t := (hg.block b h.lt (by simpa using hne)).trans h

end Go.Proofs.YtbjbjbnbapeajaaGreatDoor

namespace Go.Proofs.YtbjbjbnbapeajaaGreatDoor
open Go Go.RowKit

def idxI (P : Int → Bool) (xs : List Int) : Int := if xs.findIdx P < xs.length then (xs.findIdx P : Nat) else -1
theorem idxI_neg {P : Int → Bool} {xs : List Int} : idxI P xs = -1 ↔ ∀ x ∈ xs, P x = false := by
 unfold idxI
 by_cases h : xs.findIdx P < xs.length
 ·rw [if_pos h]
  refine ⟨fun e => by omega, fun h2 => ?_⟩
  obtain ⟨x, hx, hp⟩ := List.findIdx_lt_length.1 h
  rw [h2 x hx] at hp
  cases hp
 ·rw [if_neg h]
  refine ⟨fun _ x hx => ?_, fun _ => rfl⟩
  cases hp : P x
  ·rfl
  ·exact absurd (List.findIdx_lt_length.2 ⟨x, hx, hp⟩) h
theorem idxI_any {P : Int → Bool} {xs : List Int} : decide (0 ≤ idxI P xs) = xs.any P := by
 unfold idxI
 by_cases h : xs.findIdx P < xs.length
 ·rw [if_pos h]
  obtain ⟨x, hx, hp⟩ := List.findIdx_lt_length.1 h
  rw [List.any_eq_true.2 ⟨x, hx, hp⟩]
  simp
 ·rw [if_neg h]
  have : xs.any P = false := by
   rw [List.any_eq_false]
   intro x hx hp
   exact h (List.findIdx_lt_length.2 ⟨x, hx, hp⟩)
  rw [this]
  rfl
/-- A function of one element that answers P, and turns nothing that was there. -/
def AskI (fid : Nat) (caps : Array Value) (P : Int → Bool) (xs : List Int) (B : Nat) (w : World) : Prop :=
 ∀ w', Below B w w' → ∀ x ∈ xs, Calls Tryz.prog fid (#[.int .i64 x] ++ caps) w' fun e w'' => e = .returned (.bool (P x)) ∧ Below w'.heap.size w' w''

set_option maxRecDepth 100000 in
set_option maxHeartbeats 1000000 in
theorem IndexFuncI (lo : Nat) (v : Value) (xs : List Int) (fid : Nat) (caps : Array Value) (P : Int → Bool) (w : World) (hv : SliceK 1 encI lo w v xs) (eg : ∀ args w, (callFunc fid args).run Tryz.prog w = .ok (.enter fid args) w) (hP : AskI fid caps P xs w.heap.size w) :
  Calls Tryz.prog 140 #[v, .func (.func fid) #[] caps] w fun e w' => e = .returned (.int .i64 (idxI P xs)) ∧ Below w.heap.size w w' := by
 obtain ⟨a, c, rfl, hcn, hcc, hrow⟩ := hv
 have HR := Lib.hid hrow
 have HP := Lib.hid hP
 clear hP hrow
 go_enter Tryz.func140, Tryz.ntmps140
 go_wp2_with fail
 go_loopw [8] (fun i wr => ∃ k : Nat, k ≤ xs.length ∧ i = .int .i64 k ∧ Below w.heap.size w wr ∧ ∀ j (h : j < xs.length), j < k → P xs[j] = false) (fun i _ => xs.length - (intOf i).toNat)
 case atStart => exact ⟨0, Nat.zero_le _, rfl, Below.refl _ _, fun _ _ h => by omega⟩
 case round =>
  obtain ⟨k, hk, rfl, hbl, ha⟩ := hrel
  have HA := Lib.hid ha
  have HBL := Lib.hid hbl
  clear ha
  by_cases hlt : k < xs.length
  ·obtain ⟨b1, o1, rfl, -, hbs, c1⟩ := (HR.out.below hbl).one hlt
   simp only [encI, List.getElem?_cons_zero] at c1
   clear hbl
   obtain ⟨x, hx⟩ : ∃ x, x = xs[k] := ⟨_, rfl⟩
   rw [← hx] at c1
   have HX := Lib.hid hx
   have HC := Lib.hid (HP.out wr HBL.out x (by rw [hx]; exact List.getElem_mem _))
   obtain ⟨b, hb⟩ : ∃ b, b = P x := ⟨_, rfl⟩
   rw [← hb] at HC
   have HB := Lib.hid hb
   clear hb hx
   go_wp2_with fail
   refine Calls.mono HC.out ?_
   rintro e w1 ⟨rfl, hb1⟩
   have HB1 := Lib.hid (HBL.out.trans (hb1.mono HBL.out.size))
   clear hb1 c1
   cases b
   ·go_wp2_with fail
    go_roundw
    case rel => exact ⟨k + 1, by omega, by go_num, HB1.out, fun j h hj => by
     by_cases e : j = k
     ·subst e; rw [← HX.out]; exact HB.out.symm
     ·exact HA.out j h (by omega)⟩
    case measure => simp [intOf]; omega
   ·have HI : Hid (idxI P xs = (k : Int)) := by
     unfold Hid idxI
     have h1 : xs.findIdx P = k := by
      rw [List.findIdx_eq hlt]
      exact ⟨by rw [← HX.out]; exact HB.out.symm, fun j hj => HA.out j (by omega) hj⟩
     rw [h1, if_pos hlt]
    go_wp2_with fail
    go_ret
    exact ⟨ret_int HI.out.symm, HB1.out⟩
  ·clear hbl
   have HI : Hid (idxI P xs = -1) := by
    unfold Hid
    rw [idxI_neg]
    intro x hx
    obtain ⟨j, hj, rfl⟩ := List.mem_iff_getElem.1 hx
    exact HA.out j hj (by omega)
   go_wp2_with fail
   go_ret
   exact ⟨ret_int HI.out.symm, HBL.out⟩

theorem ContainsFuncI (lo : Nat) (v : Value) (xs : List Int) (fid : Nat) (caps : Array Value) (P : Int → Bool) (w : World) (hv : SliceK 1 encI lo w v xs) (eg : ∀ args w, (callFunc fid args).run Tryz.prog w = .ok (.enter fid args) w) (hP : AskI fid caps P xs w.heap.size w) :
  Calls Tryz.prog 102 #[v, .func (.func fid) #[] caps] w fun e w' => e = .returned (.bool (xs.any P)) ∧ Below w.heap.size w w' := by
 have HC := Lib.hid (IndexFuncI lo v xs fid caps P w hv eg hP)
 clear hP
 go_enter Tryz.func102, Tryz.ntmps102
 go_wp2_with fail
 refine Calls.mono HC.out ?_
 rintro e w' ⟨rfl, hb⟩
 have HB := Lib.hid hb
 clear hb
 go_wp2_with fail
 go_ret
 exact ⟨ret_bool idxI_any, HB.out⟩

end Go.Proofs.YtbjbjbnbapeajaaGreatDoor

namespace Go.Proofs.YtbjbjbnbapeajaaGreatDoor
open Go Go.RowKit

/-- A function of two states that answers N, and turns nothing that was there. -/
def HasFn (fid : Nat) (caps : Array Value) (N : PairSet) (w : World) : Prop :=
 ∀ w', Below w.heap.size w w' → ∀ x y, Small2 (x, y) → Calls Tryz.prog fid (#[.int .i64 x, .int .i64 y] ++ caps) w' fun e w'' => e = .returned (.bool (N x y)) ∧ Below w'.heap.size w' w''
theorem HasFn.below {fid : Nat} {caps : Array Value} {N : PairSet} {w w' : World} (h : HasFn fid caps N w) (hb : Below w.heap.size w w') : HasFn fid caps N w' := fun w'' hb2 x y hs => h w'' (hb.trans (hb2.mono hb.size)) x y hs

set_option maxRecDepth 100000 in
theorem strongly1_any (rb vb fid : Nat) (caps : Array Value) (N : PairSet) (q0 q1 q2 q3 q4 q5 q6 q7 : Value) (v x : Int) (w : World) (hr : Blk w rb [q0, q1, q2, q3, q4, q5, q6, q7, .func (.func fid) #[] caps] 95) (hv : Blk w vb [.int .i64 v] 2)
  (eg : ∀ args w, (callFunc fid args).run Tryz.prog w = .ok (.enter fid args) w) (hH : HasFn fid caps N w) (hs : Small2 (v, x)) :
  Calls Tryz.prog 106 #[.int .i64 x, .pointer (some ⟨rb, 0, none⟩), .pointer (some ⟨vb, 0, none⟩)] w fun e w' => e = .returned (.bool (N v x)) ∧ Below w.heap.size w w' := by
 have HC := Lib.hid (hH w (Below.refl _ _) v x hs)
 have r8 := hr.cell 8 rfl
 have v0 := hv.cell 0 rfl
 obtain ⟨b, hb⟩ : ∃ b, b = N v x := ⟨_, rfl⟩
 rw [← hb] at HC ⊢
 clear hr hv hH hs hb
 go_enter Tryz.func106, Tryz.ntmps106
 go_wp2_with fail
 refine Calls.mono HC.out ?_
 rintro e w' ⟨rfl, hb1⟩
 have HB := Lib.hid hb1
 clear hb1 HC
 go_wp2_with fail
 go_ret
 exact ⟨rfl, HB.out⟩

theorem follow_small {b : Lts} (hv : Valid b) {cur : List Int} {l : ByteArray} {x v : Int} (h0 : 0 ≤ v) (h1 : v < 40) (hx : x ∈ followL b cur l) : Small2 (v, x) := by
 have hm := ((sort_compact_is (followR b cur l)).mem x).1 hx
 obtain ⟨e, he, -, -, rfl⟩ := mem_followR.1 hm
 obtain ⟨i, hi, rfl⟩ := List.mem_iff_getElem.1 he
 have hok := hv.edge i hi
 have h2 := hok.d0
 have h3 := hok.d1
 have h4 := hv.st1
 exact ⟨⟨h0, h1⟩, h2, by show b.edges[i].dst < 40; omega⟩

set_option maxRecDepth 100000 in
set_option maxHeartbeats 1000000 in
theorem strongly_any (lo fid : Nat) (caps : Array Value) (N : PairSet) (a b : Lts) (la ea lb eb : Value) (x y v : Int) (l : ByteArray) (w : World) (hvb : Valid b) (hlb : SliceK 1 encS lo w lb b.labels) (heb : SliceK 3 encE lo w eb b.edges)
  (eg : ∀ args w, (callFunc fid args).run Tryz.prog w = .ok (.enter fid args) w) (hH : HasFn fid caps N w) (h0 : 0 ≤ v) (h1 : v < 40) :
  Calls Tryz.prog 86 #[.agg #[.int .i64 a.states, .int .i64 a.initial, la, ea, .int .i64 b.states, .int .i64 b.initial, lb, eb, .func (.func fid) #[] caps], .int .i64 x, .int .i64 y, .string l, .int .i64 v] w fun e w' => e = .returned (.bool (strongB b N y l v)) ∧ Below w.heap.size w w' := by
 obtain ⟨rb, hrb⟩ : ∃ rb, rb = w.heap.size := ⟨_, rfl⟩
 obtain ⟨W, hW⟩ : ∃ W, W = ((w.alloc (.cells #[.int .i64 a.states, .int .i64 a.initial, la, ea, .int .i64 b.states, .int .i64 b.initial, lb, eb, .func (.func fid) #[] caps] 95)).alloc (.cells #[.int .i64 v] 2)).alloc (.cells #[.int .i64 y] 2) := ⟨_, rfl⟩
 have hb : Below w.heap.size w W := by rw [hW]; exact (((Below.refl _ _).alloc (Nat.le_refl _) _).alloc (by simp) _).alloc (by simp; omega) _
 have hR : Blk W rb [.int .i64 a.states, .int .i64 a.initial, la, ea, .int .i64 b.states, .int .i64 b.initial, lb, eb, .func (.func fid) #[] caps] 95 := by rw [hW, hrb]; exact ((Blk.new w _ _).alloc _).alloc _
 have hV : Blk W (rb + 1) [.int .i64 v] 2 := by
  have h := (Blk.new (w.alloc (.cells #[.int .i64 a.states, .int .i64 a.initial, la, ea, .int .i64 b.states, .int .i64 b.initial, lb, eb, .func (.func fid) #[] caps] 95)) [.int .i64 v] 2).alloc (.cells #[.int .i64 y] 2)
  rw [World.size_alloc, ← hrb] at h
  rw [hW]
  exact h
 have hY : Blk W (rb + 2) [.int .i64 y] 2 := by
  have h := Blk.new ((w.alloc (.cells #[.int .i64 a.states, .int .i64 a.initial, la, ea, .int .i64 b.states, .int .i64 b.initial, lb, eb, .func (.func fid) #[] caps] 95)).alloc (.cells #[.int .i64 v] 2)) [.int .i64 y] 2
  rw [World.size_alloc, World.size_alloc, ← hrb] at h
  rw [hW]
  exact h
 have hS : SliceK 1 encI 0 W (.slice (some ⟨rb + 2, 0, none⟩) 1 1) [y] := ⟨_, _, rfl, by simp, by simp, .inr ⟨rb + 2, 0, rfl, Nat.zero_le _, hY.lt, fun i hi j hj => by
  have hi0 : i = 0 := by simpa using hi
  have hj0 : j = 0 := by omega
  subst hi0; subst hj0
  exact hY.cell 0 rfl⟩⟩
 have HF := Lib.hid (follow_any lo 0 b lb eb _ [y] l W hvb (hlb.below hb) (heb.below hb) hS)
 have HSM : Hid (∀ z ∈ followL b [y] l, Small2 (v, z)) := fun z hz => follow_small hvb h0 h1 hz
 have HB := Lib.hid hb
 have HR := Lib.hid hR
 have HV := Lib.hid hV
 have HH := Lib.hid (hH.below hb)
 have HW := Lib.hid hW
 have HRB := Lib.hid hrb
 have hsW : w.heap.size ≤ W.heap.size := hb.size
 have HST : Hid (strongB b N y l v = (followL b [y] l).any fun z => N v z) := rfl
 have r4 := hR.cell 4 rfl
 have r5 := hR.cell 5 rfl
 have r6 := hR.cell 6 rfl
 have r7 := hR.cell 7 rfl
 rw [hW, hrb] at r4 r5 r6 r7
 clear hvb hlb heb hH h0 h1 hb hR hV hY hS hW hrb
 go_enter Tryz.func86, Tryz.ntmps86
 go_wp2_with fail
 rw [← HW.out]
 try rw [← HRB.out]
 refine Calls.mono HF.out ?_
 rintro e w1 ⟨fv, rfl, hb1, ho1⟩
 have hs1 : SliceK 1 encI W.heap.size w1 fv (followL b [y] l) := SliceK.of_owns (e := 2) encI_len rfl (by rw [flat_encI]; exact ho1)
 have HCF := Lib.hid (ContainsFuncI W.heap.size fv (followL b [y] l) 106 #[.pointer (some ⟨rb, 0, none⟩), .pointer (some ⟨rb + 1, 0, none⟩)] (fun z => N v z) w1 hs1 (fun args w => by kernel_rfl)
  fun w' hb' z hz => strongly1_any rb (rb + 1) fid caps N _ _ _ _ _ _ _ _ v z w' (HR.out.below (hb1.trans (hb'.mono hb1.size))) (HV.out.below (hb1.trans (hb'.mono hb1.size))) eg (HH.out.below (hb1.trans (hb'.mono hb1.size))) (HSM.out z hz))
 have HB1 := Lib.hid (HB.out.trans (hb1.mono hsW))
 obtain ⟨c, hc⟩ : ∃ c, c = (followL b [y] l).any fun z => N v z := ⟨_, rfl⟩
 rw [← hc] at HCF HST
 have hs1w := HB1.out.size
 clear hb1 ho1 hs1 r4 r5 r6 r7 HF hc
 go_wp2_with fail
 refine Calls.mono HCF.out ?_
 rintro e w2 ⟨rfl, hb2⟩
 have HB2 := Lib.hid (HB1.out.trans (hb2.mono hs1w))
 clear hb2 HCF
 go_wp2
 go_ret
 exact ⟨ret_bool HST.out.symm, HB2.out⟩

end Go.Proofs.YtbjbjbnbapeajaaGreatDoor

namespace Go.Proofs.YtbjbjbnbapeajaaGreatDoor
open Go Go.RowKit

set_option maxRecDepth 100000 in
set_option maxHeartbeats 2000000 in
theorem out_any (lo : Nat) (t : Lts) (lv ev : Value) (s : Int) (w : World) (hsmall : t.edges.length ≤ 1073741824) (he : SliceK 3 encE lo w ev t.edges) :
  Calls Tryz.prog 80 #[.agg #[.int .i64 t.states, .int .i64 t.initial, lv, ev], .int .i64 s] w (MadeOut t s w) := by
 obtain ⟨ae, ce, rfl, hen, hec, hrow⟩ := he
 obtain ⟨i0, hi, hz0, hz1, hz2⟩ := info_parts info_edge2
 have HB0 : Hid (Below w.heap.size w (w.alloc (.cells #[.int .i64 t.states, .int .i64 t.initial, lv, .slice ae t.edges.length ce] 29))) := (Below.refl _ _).alloc (Nat.le_refl _) _
 go_enter Tryz.func80, Tryz.ntmps80
 go_wp2_with fail
 go_loopw [5, 11] (fun v i wr => ∃ k : Nat, k ≤ t.edges.length ∧ i = .int .i64 k ∧ Below w.heap.size w wr ∧ wr.ownsRow w.heap.size 73 3 v ((t.edges.take k).filter fun e => e.src == s).length (((t.edges.take k).filter fun e => e.src == s).flatMap encE)) (fun _ i _ => t.edges.length - (intOf i).toNat)
 case atStart => exact ⟨0, Nat.zero_le _, rfl, HB0.out, World.ownsRow_nil _ _ _ _⟩
 case round =>
  obtain ⟨k, hk, rfl, hbl, ho⟩ := hrel
  have HBL := Lib.hid hbl
  have HO := Lib.hid ho
  have hsz := hbl.size
  have hfl : ((t.edges.take k).filter fun e => e.src == s).length ≤ k := Nat.le_trans (List.length_filter_le _ _) (List.length_take_le _ _)
  clear hbl ho
  by_cases hlt : k < t.edges.length
  ·obtain ⟨be, oe, rfl, -, hbe, e1, e2, e3⟩ := (hrow.below HBL.out).edge hlt
   clear hrow
   have HBA : Hid (Below w.heap.size w (wr.alloc (.cells #[.int .i64 t.edges[k].src, .int .i64 t.edges[k].lab, .int .i64 t.edges[k].dst] 73))) := HBL.out.alloc hsz _
   have HOA : Hid ((wr.alloc (.cells #[.int .i64 t.edges[k].src, .int .i64 t.edges[k].lab, .int .i64 t.edges[k].dst] 73)).ownsRow w.heap.size 73 3 u5 ((t.edges.take k).filter fun e => e.src == s).length (((t.edges.take k).filter fun e => e.src == s).flatMap encE)) := HO.out.alloc _
   cases g : (t.edges[k].src == s)
   ·have HL : Hid ((t.edges.take (k + 1)).filter (fun e => e.src == s) = (t.edges.take k).filter fun e => e.src == s) := by
     unfold Hid
     rw [List.take_succ_eq_append_getElem hlt, List.filter_append]
     simp [g]
    go_wp2_with fail
    go_roundw
    case rel => exact ⟨k + 1, by omega, by go_num, HBA.out, by rw [HL.out]; exact HOA.out⟩
    case measure => simp [intOf]; omega
   ·have HL : Hid ((t.edges.take (k + 1)).filter (fun e => e.src == s) = ((t.edges.take k).filter fun e => e.src == s) ++ [t.edges[k]]) := by
     unfold Hid
     rw [List.take_succ_eq_append_getElem hlt, List.filter_append]
     simp [g]
    generalize hfs : (t.edges.take k).filter (fun e => e.src == s) = fs at *
    have HFS := Lib.hid hfs
    clear hfs
    go_wp2_with (at_builtin; refine wpList_append_own _ rfl _ _ 27 rfl w.heap.size 73 i0 (.agg #[.int .i64 0, .int .i64 0, .int .i64 0]) 3 24 Tryz.underlying27 hi hz0 hz1 hz2 rfl (by decide) _ _ _ rfl (HOA.out.alloc _) ⟨wr.heap.size + 1, 0, none⟩ 1 1 (encE t.edges[k]) rfl rfl ?c1 ?c2 ?c3 ?c4 ?c5 ?_)
    case c1 => have := three_new (wr.alloc (.cells #[.int .i64 t.edges[k].src, .int .i64 t.edges[k].lab, .int .i64 t.edges[k].dst] 73)) t.edges[k] 73; simpa using this
    case c2 => intro u hu; simp [encE] at hu; rcases hu with rfl | rfl | rfl <;> rfl
    case c3 => simp [maxLen]; omega
    case c4 => omega
    case c5 => simp; omega
    intro v' w1 ho1 hg1 _
    have HO2 : Hid (w1.ownsRow w.heap.size 73 3 v' (fs ++ [t.edges[k]]).length ((fs ++ [t.edges[k]]).flatMap encE)) := by
     unfold Hid
     rw [List.length_append, List.flatMap_append, List.flatMap_singleton]
     exact ho1
    have HB2 : Hid (Below w.heap.size w w1) := (HBA.out.alloc (by simp; omega) _).grown hg1 (by simp; omega) (fun b e => (HO.out.lt b e).1)
    clear ho1 hg1
    go_wp2_with fail
    go_roundw
    case rel => exact ⟨k + 1, by omega, by go_num, HB2.out, by rw [HL.out]; exact HO2.out⟩
    case measure => simp [intOf]; omega
  ·clear hrow
   go_wp2_with fail
   go_ret
   obtain rfl : k = t.edges.length := by omega
   exact ⟨_, rfl, HBL.out, by unfold outOf; have := HO.out; rw [List.take_length] at this; exact this⟩

end Go.Proofs.YtbjbjbnbapeajaaGreatDoor

namespace Go.Proofs.YtbjbjbnbapeajaaGreatDoor
open Go Go.RowKit

section
variable {P : Program} {ops : Array Oper} {md : Region.Mode} {C : World → Prop}

/-- Whatever order is picked, of the operations ahead of number n; then L. -/
def headAny (P : Program) (md : Region.Mode) (ops : Array Oper) (C : World → Prop) (n : Nat) (L : Array Bool → Act → Prop) : Nat → Array Bool → Act → Prop
 | 0, listed, a => L listed a
 | f + 1, listed, a => Region.ready md ops listed ≠ [] ∧ ∀ i ∈ Region.ready md ops listed, i < n ∧ qOp P ops C i (headAny P md ops C n L f (listed.setIfInBounds i true)) a

theorem wpAny_of_headAny {n g : Nat} {L : Array Bool → Act → Prop} {Q : Exit → Act → World → Prop} (hL : ∀ listed a w, C w → L listed a → wpAny P md ops Q g listed a w) (f : Nat) :
  ∀ (listed : Array Bool) (a : Act) (w : World), C w → headAny P md ops C n L f listed a → wpAny P md ops Q (f + g) listed a w := by
 induction f with
 | zero => intro listed a w hw h; rw [Nat.zero_add]; exact hL _ _ _ hw h
 | succ f ih =>
  intro listed a w hw h
  rw [show f + 1 + g = (f + g) + 1 from by omega]
  exact ⟨fun h0 => absurd h0 h.1, fun i hi => wpOp_of_qOp hw (fun a' w' hw' h' => ih _ a' w' hw' h') (h.2 i hi).2⟩

theorem headAny_first {n i : Nat} {oi : Oper} {v : Value} {L : Array Bool → Act → Prop} (hi : ops[i]? = some oi) (hsel : ∀ (j : Nat) (o : Oper) cs b, ops[j]? = some o → o.op ≠ .select cs b)
  (hs : Region.sinkB md ops n = true) (hc : Region.chainB md ops n = true) (hn : n < ops.size) (hin : i < n) (hdone : ∀ listed a, L listed a → ∀ j ∈ Region.ready md ops listed, n ≤ j) (f : Nat) :
  ∀ (listed : Array Bool) (a : Act), HeadInv md ops n listed →
   (∀ j oj, ops[j]? = some oj → j ≠ i → listed.getD j true = false → (∀ e ∈ oj.after, Region.binds md e = true → e.on ≠ i) → oi.apart ops oj = true) →
   i ∈ Region.ready md ops listed → YieldsIn P ops C oi v a → headAny P md ops C n L f (listed.setIfInBounds i true) (a.put oi.dst v) → headAny P md ops C n L (f + 1) listed a := by
 have behind : ∀ listed : Array Bool, HeadInv md ops n listed → i ∈ Region.ready md ops listed → ∀ j ∈ Region.ready md ops listed, j < n := by
  intro listed inv hr j hj
  rcases Nat.lt_or_ge j n with h | h
  ·exact h
  ·exact absurd hj (tail_waits hs hc hn inv _ i rfl hin (mem_ready.1 hr).1 j h)
 induction f with
 | zero =>
  intro listed a inv _ hr hy H
  refine ⟨fun h => (by rw [h] at hr; cases hr), fun j hj => ?_⟩
  have hjn := behind listed inv hr j hj
  refine ⟨hjn, ?_⟩
  by_cases hji : j = i
  ·subst hji; exact hy.qOp hi H
  ·have := hdone _ _ H j (ready_mono hj hji)
   omega
 | succ f ih =>
  intro listed a inv hfree hr hy H
  refine ⟨fun h => (by rw [h] at hr; cases hr), fun j hj => ?_⟩
  have hjn := behind listed inv hr j hj
  refine ⟨hjn, ?_⟩
  by_cases hji : j = i
  ·subst hji; exact hy.qOp hi H
  ·obtain ⟨hjun, oj, hoj, hall⟩ := mem_ready.1 hj
   have hnot : ∀ e ∈ oj.after, Region.binds md e = true → e.on ≠ i := fun e he hb heq => by
    have h1 := hall e he hb
    rw [heq, getD_both (mem_ready.1 hr).1] at h1
    cases h1
   have hrest := qOp_put hoj (hfree j oj hoj hji hjun hnot) (fun cs b => hsel i oi cs b hi) (fun cs b => hsel j oj cs b hoj) hy (H.2 j (ready_mono hj hji)).2
   refine qOp_mono (fun a' h3 => ih (listed.setIfInBounds j true) a' (inv.set hj hjn) (fun k ok hk hki hun hno => ?_) (ready_mono hr (Ne.symm hji)) h3.1 ?_) hrest
   ·refine hfree k ok hk hki ?_ hno
    by_cases hjk : j = k
    ·subst hjk; exact hjun
    ·rw [getD_set_ne true hjk] at hun; exact hun
   ·rw [Array.setIfInBounds_comm _ _ hji]
    exact h3.2

theorem headAny_lex {n g : Nat} {L : Act → Prop} (hsel : Region.noSelect ops = true) (hs : Region.sinkB md ops n = true) (hc : Region.chainB md ops n = true) (hn : n < ops.size) (l : List Oper) :
  ∀ (k : Nat) (listed : Array Bool) (a : Act), (∀ j, j < l.length → l[j]? = ops[k + j]?) → k + l.length = n → HeadInv md ops n listed → Region.lexHead md ops g l.length k listed = true → wpQuiet P ops C L l a →
   headAny P md ops C n (fun listed' a' => Region.seqB md ops g n listed' = true ∧ L a') l.length listed a := by
 induction l with
 | nil =>
  intro k listed a _ hk _ hB h
  obtain rfl : k = n := by simpa using hk
  exact ⟨by simpa [Region.lexHead] using hB, h⟩
 | cons o l ih =>
  intro k listed a hl hk inv hB h
  have h0 : ops[k]? = some o := by simpa using (hl 0 (by simp)).symm
  simp only [List.length_cons, Region.lexHead, Bool.and_eq_true] at hB
  have hkn : k < n := by simp only [List.length_cons] at hk; omega
  have hr : k ∈ Region.ready md ops listed := by simpa using hB.1.1
  obtain ⟨v, hy, hK⟩ := yieldsIn_of_qOp h0 (show qOp P ops C k (wpQuiet P ops C L l) a by unfold qOp; simp only [h0]; exact h)
  exact headAny_first h0 (Region.noSelect_spec hsel) hs hc hn hkn (fun _ _ hL => seqB_ready hL.1) l.length listed a inv (Region.free_spec h0 hB.1.2) hr hy
   (ih (k + 1) _ _ (fun j hj => by have := hl (j + 1) (by simp; omega); simpa [Nat.add_assoc, Nat.add_comm 1 j] using this) (by simp only [List.length_cons] at hk; omega) (inv.set hr hkn) hB.2 hK)

/-- The operations ahead of number n are quiet in the class C; the others come in their order, from whatever world of the class. -/
theorem wp_region_quiet_tail {id : Nat} {Q : Exit → Act → World → Prop} {a : Act} {w : World} {l : List Oper} (n : Nat) (hm : P.follows .mixedOrders = true) (hB : Region.lexTailB .any l.toArray n = true) (hC : C { w with drawn := w.drawn + 1 })
  (h : wpQuiet P l.toArray C (fun a' => ∀ w', C w' → wpList P l.toArray Q (l.drop n) a' w') (l.take n) a) : (Code.region id l.toArray true).wp P Q a w := by
 simp only [Region.lexTailB, Bool.and_eq_true, decide_eq_true_eq] at hB
 obtain ⟨⟨⟨⟨hsel, hn⟩, hs⟩, hc⟩, hlex⟩ := hB
 have hn' : n < l.length := by simpa using hn
 have htl : (l.take n).length = n := by simp; omega
 have hdl : (l.drop n).length = l.toArray.size - n := by simp
 have inv0 : HeadInv .any l.toArray n (Array.replicate l.toArray.size false) :=
  ⟨by simp, fun j oj _ hl => (by rw [getD_replicate_false] at hl; cases hl), fun t _ ht => getD_in (by simpa using ht) (getD_replicate_false _ _)⟩
 have H := headAny_lex (C := C) (md := .any) (g := l.toArray.size - n) hsel hs hc hn (l.take n) 0 _ a (fun j hj => by
  have hj' : j < n := by rw [htl] at hj; exact hj
  simp [hj']) (by simpa using htl) inv0 (by rw [htl]; exact hlex) h
 refine wp_region_any hm ?_
 have := wpAny_of_headAny (Q := Q) (g := l.toArray.size - n) (fun listed a' w' hw' hL => by
  have := wpAny_of_seq (md := .any) (Q' := Q) (l.drop n) n listed a' w' (fun j => by simp [List.getElem?_drop]) (by rw [hdl]; exact hL.1) (hL.2 w' hw')
  rwa [hdl] at this) _ _ _ _ hC H
 rw [htl, show n + (l.toArray.size - n) = l.toArray.size from by omega] at this
 exact this
end

/-- At the class of the later worlds. -/
theorem wp_region_later_tail {P : Program} {id : Nat} {Q : Exit → Act → World → Prop} {a : Act} {w : World} {l : List Oper} (n : Nat) (hm : P.follows .mixedOrders = true) (hB : Region.lexTailB .any l.toArray n = true)
  (h : wpQuiet P l.toArray (fun w' => ∃ g : Later w, w' = g.w) (fun a' => ∀ w', (∃ g : Later w, w' = g.w) → wpList P l.toArray Q (l.drop n) a' w') (l.take n) a) : (Code.region id l.toArray true).wp P Q a w :=
 wp_region_quiet_tail (C := fun w' => ∃ g : Later w, w' = g.w) n hm hB ⟨⟨_, (Below.refl _ w).drew⟩, rfl⟩ h

end Go.Proofs.YtbjbjbnbapeajaaGreatDoor

namespace Go.Proofs.YtbjbjbnbapeajaaGreatDoor
open Go Go.RowKit

set_option maxRecDepth 100000 in
set_option maxHeartbeats 4000000 in
theorem answered_any (lo fid fid2 : Nat) (caps : Array Value) (a b : Lts) (la ea lb eb : Value) (G : Edge → Bool) (x y : Int) (w : World) (hva : Valid a) (hla : SliceK 1 encS lo w la a.labels) (hea : SliceK 3 encE lo w ea a.edges)
  (eg2 : ∀ args w, (callFunc fid2 args).run Tryz.prog w = .ok (.enter fid2 args) w)
  (hG : ∀ w', Below w.heap.size w w' → ∀ e ∈ outOf a x, Calls Tryz.prog fid2 #[.agg #[.int .i64 a.states, .int .i64 a.initial, la, ea, .int .i64 b.states, .int .i64 b.initial, lb, eb, .func (.func fid) #[] caps], .int .i64 x, .int .i64 y, .string (labAt a e), .int .i64 e.dst] w' fun r w'' => r = .returned (.bool (G e)) ∧ Below w'.heap.size w' w'') :
  Calls Tryz.prog 84 #[.agg #[.int .i64 a.states, .int .i64 a.initial, la, ea, .int .i64 b.states, .int .i64 b.initial, lb, eb, .func (.func fid) #[] caps], .int .i64 x, .int .i64 y, .func (.func fid2) #[] #[]] w fun e w' => e = .returned (.bool ((outOf a x).all G)) ∧ Below w.heap.size w w' := by
 obtain ⟨al, cl, rfl, hln, hlc, hlrow⟩ := hla
 obtain ⟨LN, hLN⟩ : ∃ LN, LN = a.labels.length := ⟨_, rfl⟩
 rw [← hLN] at hG hln
 rw [← hLN]
 have HLN := Lib.hid hLN
 obtain ⟨rb, hrb⟩ : ∃ rb, rb = w.heap.size := ⟨_, rfl⟩
 obtain ⟨W, hW⟩ : ∃ W, W = w.alloc (.cells #[.int .i64 a.states, .int .i64 a.initial, .slice al LN cl, ea, .int .i64 b.states, .int .i64 b.initial, lb, eb, .func (.func fid) #[] caps] 95) := ⟨_, rfl⟩
 have hb : Below w.heap.size w W := by rw [hW]; exact (Below.refl _ _).alloc (Nat.le_refl _) _
 have hR : Blk W rb [.int .i64 a.states, .int .i64 a.initial, .slice al LN cl, ea, .int .i64 b.states, .int .i64 b.initial, lb, eb, .func (.func fid) #[] caps] 95 := by rw [hW, hrb]; exact Blk.new w _ _
 have HOU := Lib.hid (out_any lo a (.slice al LN cl) ea x W (by have := hva.most; omega) (hea.below hb))
 have HV := Lib.hid hva
 have HB := Lib.hid hb
 have HR := Lib.hid hR
 have HG := Lib.hid hG
 have HLR := Lib.hid (hlrow.below hb)
 have HW := Lib.hid hW
 have HRB := Lib.hid hrb
 have hsW : w.heap.size ≤ W.heap.size := hb.size
 have r0 := hR.cell 0 rfl
 have r1 := hR.cell 1 rfl
 have r2 := hR.cell 2 rfl
 have r3 := hR.cell 3 rfl
 rw [hW, hrb] at r0 r1 r2 r3
 clear hva hea hG hb hR hW hrb hlrow hLN
 go_enter Tryz.func84, Tryz.ntmps84
 go_wp2_with fail
 rw [← HW.out]
 try rw [← HRB.out]
 refine Calls.mono HOU.out ?_
 rintro e w1 ⟨ov, rfl, hb1, ho1⟩
 have HB1 := Lib.hid hb1
 obtain ⟨O, hO⟩ : ∃ O, O = outOf a x := ⟨_, rfl⟩
 rw [← hO] at ho1
 have HOO := Lib.hid hO
 have HO1 := Lib.hid ho1
 obtain ⟨oa, oc, rfl, -, -⟩ := owns_slice ho1
 have hs1 : W.heap.size ≤ w1.heap.size := hb1.size
 obtain ⟨OL, hOL⟩ : ∃ OL, OL = O.length := ⟨_, rfl⟩
 rw [← hOL] at HO1
 rw [← hOL]
 have HOL := Lib.hid hOL
 have hol : OL ≤ 1048576 := by
  have h1 : O.length ≤ a.edges.length := by rw [hO]; exact List.length_filter_le _ _
  have := HV.out.most
  omega
 have HBW : Hid (Below w.heap.size w w1) := HB.out.trans (hb1.mono hsW)
 clear hb1 ho1 hO hOL r0 r1 r2 r3 HOU
 go_wp2
 go_loopw [16] (fun v16 wr => ∃ k : Nat, k ≤ OL ∧ v16 = .int .i64 k ∧ Below w1.heap.size w1 wr ∧ ∀ e ∈ O.take k, G e = true) (fun v16 _ => OL - (intOf v16).toNat)
 case atStart => exact ⟨0, Nat.zero_le _, rfl, Below.refl _ _, fun e he => by simp at he⟩
 case round =>
  obtain ⟨k, hk, rfl, hbl, hall⟩ := hrel
  obtain ⟨wC, rfl⟩ : ∃ wC : World, wC = wr := ⟨_, rfl⟩
  have HBL := Lib.hid hbl
  have HALL := Lib.hid hall
  have hszC := hbl.size
  clear hbl hall
  by_cases hlt : k < OL
  ·have hkO : k < O.length := by rw [← HOL.out]; exact hlt
   have hoC := owns_below HO1.out HBL.out
   obtain ⟨ob, e1, hobl⟩ : ∃ ob, oa = some ⟨ob, 0, none⟩ ∧ ob < wC.heap.size := by
    rcases hoC.2 with ⟨h, h0⟩ | ⟨g, c, u, h, -⟩
    ·omega
    ·simp only [Value.slice.injEq, true_and] at h
     obtain ⟨rfl, rfl⟩ := h
     exact ⟨g, rfl, (hoC.lt g rfl).2⟩
   subst e1
   have hrow : RowK 3 encE W.heap.size wC (some ⟨ob, 0, none⟩) O := by
    obtain ⟨a', c', he, -, -, hr⟩ := SliceK.of_owns (enc := encE) encE_len HOL.out hoC
    simp only [Value.slice.injEq] at he
    rw [he.1]
    exact hr
   obtain ⟨ob', of', hq, -, -, e1, e2, e3⟩ := hrow.edge hkO
   simp only [Option.some.injEq, Addr.mk.injEq, and_true] at hq
   obtain ⟨rfl, rfl⟩ := hq
   rw [Nat.zero_add] at e1 e2 e3
   obtain ⟨q, hq⟩ : ∃ q, q = O[k] := ⟨_, rfl⟩
   rw [← hq] at e1 e2 e3
   have hqo : q ∈ outOf a x := by rw [← HOO.out, hq]; exact List.getElem_mem hkO
   have hqm : q ∈ a.edges := (List.mem_filter.1 hqo).1
   obtain ⟨qi, hqi, hqe⟩ := List.mem_iff_getElem.1 hqm
   have hok := HV.out.edge qi hqi
   rw [hqe] at hok
   obtain ⟨el, hel⟩ : ∃ el : Nat, (el : Int) = q.lab := ⟨q.lab.toNat, by have := hok.l0; omega⟩
   have helL : el < a.labels.length := by have := hok.l1; omega
   have helN : el < LN := by rw [HLN.out]; exact helL
   obtain ⟨bl, ol, rfl, -, hbl0, hlc1⟩ := HLR.out.one helL
   obtain ⟨l, hl⟩ : ∃ l, l = a.labels[el] := ⟨_, rfl⟩
   simp only [encS, List.getElem?_cons_zero] at hlc1
   rw [← hl] at hlc1
   have hlab : labAt a q = l := by
    unfold labAt
    rw [show q.lab.toNat = el from by omega, List.getD_eq_getElem?_getD, List.getElem?_eq_getElem helL, hl]
    rfl
   obtain ⟨es, hes⟩ : ∃ es, es = q.src := ⟨_, rfl⟩
   obtain ⟨ed, hed⟩ : ∃ ed, ed = q.dst := ⟨_, rfl⟩
   rw [← hes] at e1
   rw [← hel] at e2
   rw [← hed] at e3
   obtain ⟨W2, hW2⟩ : ∃ W2, W2 = wC.alloc (.cells #[.int .i64 es, .int .i64 el, .int .i64 ed] 73) := ⟨_, rfl⟩
   obtain ⟨eb2, heb2⟩ : ∃ eb2, eb2 = wC.heap.size := ⟨_, rfl⟩
   have hb2 : Below wC.heap.size wC W2 := by rw [hW2]; exact (Below.refl _ _).alloc (Nat.le_refl _) _
   have hE : Blk W2 eb2 [.int .i64 es, .int .i64 el, .int .i64 ed] 73 := by rw [hW2, heb2]; exact Blk.new wC _ _
   have h02 : Below W.heap.size W W2 := (HB1.out.trans ((HBL.out.trans (hb2.mono hszC)).mono hs1))
   have hR2 := HR.out.below h02
   have hgc : ∀ w', Below w.heap.size w w' → Calls Tryz.prog fid2 #[.agg #[.int .i64 a.states, .int .i64 a.initial, .slice (some ⟨bl, ol, none⟩) LN cl, ea, .int .i64 b.states, .int .i64 b.initial, lb, eb, .func (.func fid) #[] caps], .int .i64 x, .int .i64 y, .string l, .int .i64 ed] w' fun r w'' => r = .returned (.bool (G q)) ∧ Below w'.heap.size w' w'' := by
    intro w' hbw'
    have := HG.out w' hbw' q hqo
    rw [hlab, ← hed] at this
    exact this
   have HGC := Lib.hid hgc
   have H2 := Lib.hid (HBL.out.trans (hb2.mono hszC))
   have hs2 : w1.heap.size ≤ W2.heap.size := H2.out.size
   have HQ := Lib.hid hq
   have HW2 := Lib.hid hW2
   have HEB2 := Lib.hid heb2
   have heli : (el : Int) < (LN : Int) := by omega
   have hki : (k : Int) < (OL : Int) := by omega
   obtain ⟨g, hg⟩ : ∃ g, g = G q := ⟨_, rfl⟩
   rw [← hg] at HGC
   have HGG := Lib.hid hg
   have l0 := later_cell hR2.lt (hR2.cell 0 rfl)
   have l1 := later_cell hR2.lt (hR2.cell 1 rfl)
   have l2 := later_cell hR2.lt (hR2.cell 2 rfl)
   have l3 := later_cell hR2.lt (hR2.cell 3 rfl)
   have l4 := later_cell hR2.lt (hR2.cell 4 rfl)
   have l5 := later_cell hR2.lt (hR2.cell 5 rfl)
   have l6 := later_cell hR2.lt (hR2.cell 6 rfl)
   have l7 := later_cell hR2.lt (hR2.cell 7 rfl)
   have l8 := later_cell hR2.lt (hR2.cell 8 rfl)
   have k1 := later_cell hE.lt (hE.cell 1 rfl)
   have k2 := later_cell hE.lt (hE.cell 2 rfl)
   have k3 := later_cell (Nat.lt_of_lt_of_le hbl0 h02.size) (keeps h02 hbl0 hlc1)
   clear hrow hq hqo hqm hqe hqi hok hel helL hl hlab hes hed hW2 heb2 hb2 hE h02 hR2 hgc hg hlc1 hoC
   go_wp2
   rw [← HW2.out]
   try rw [← HEB2.out]
   refine wp_region_later_tail 13 (by kernel_rfl) (by kernel_rfl) ?_
   simp only [List.take_succ_cons, List.take_zero, List.drop_succ_cons, List.drop_zero]
   repeat (go_big_quiet_step ((fail)))
   refine wpQuiet_nil ?_
   intro _ hw9
   obtain ⟨nl, hw8⟩ := hw9
   subst hw8
   have HN : Hid (Below w1.heap.size w1 nl.w) := H2.out.trans (nl.h.mono hs2)
   have HCC := Lib.hid (HGC.out nl.w (HBW.out.trans (HN.out.mono HBW.out.size)))
   clear l0 l1 l2 l3 l4 l5 l6 l7 l8 k1 k2 k3
   go_wp2_with fail
   refine Calls.mono HCC.out ?_
   rintro e w5 ⟨rfl, hb5⟩
   have HB5 := Lib.hid (HN.out.trans (hb5.mono HN.out.size))
   clear hb5 HCC
   cases g
   ·have HF : Hid ((outOf a x).all G = false) := by
     unfold Hid
     rw [← HOO.out]
     exact List.all_eq_false.2 ⟨O[k], List.getElem_mem hkO, by rw [← HQ.out, ← HGG.out]; simp⟩
    go_wp2
    go_ret
    exact ⟨ret_bool HF.out.symm, HBW.out.trans (HB5.out.mono HBW.out.size)⟩
   ·go_wp2
    go_roundw
    case rel =>
     refine ⟨k + 1, by omega, by go_num, HB5.out, fun e he => ?_⟩
     rw [List.take_succ_eq_append_getElem hkO, List.mem_append, List.mem_singleton] at he
     rcases he with he | rfl
     ·exact HALL.out e he
     ·rw [← HQ.out, ← HGG.out]
    case measure => simp [intOf]; omega
  ·have HF : Hid ((outOf a x).all G = true) := by
    unfold Hid
    rw [← HOO.out]
    exact List.all_eq_true.2 fun e he => HALL.out e (by rw [List.take_of_length_le (by have := HOL.out; omega)]; exact he)
   go_wp2
   go_ret
   exact ⟨ret_bool HF.out.symm, HBW.out.trans (HBL.out.mono HBW.out.size)⟩

set_option maxRecDepth 100000 in
set_option maxHeartbeats 1000000 in
theorem simulated_plain (lo fid : Nat) (caps : Array Value) (N : PairSet) (a b : Lts) (la ea lb eb : Value) (x y : Int) (w : World) (hva : Valid a) (hvb : Valid b) (hla : SliceK 1 encS lo w la a.labels) (hea : SliceK 3 encE lo w ea a.edges)
  (hlb : SliceK 1 encS lo w lb b.labels) (heb : SliceK 3 encE lo w eb b.edges) (eg : ∀ args w, (callFunc fid args).run Tryz.prog w = .ok (.enter fid args) w) (hH : HasFn fid caps N w) :
  Calls Tryz.prog 64 #[.agg #[.int .i64 a.states, .int .i64 a.initial, la, ea, .int .i64 b.states, .int .i64 b.initial, lb, eb, .func (.func fid) #[] caps], .int .i64 0, .int .i64 x, .int .i64 y] w fun e w' => e = .returned (.bool (ansG a b N x y)) ∧ Below w.heap.size w w' := by
 obtain ⟨rb, hrb⟩ : ∃ rb, rb = w.heap.size := ⟨_, rfl⟩
 obtain ⟨W, hW⟩ : ∃ W, W = w.alloc (.cells #[.int .i64 a.states, .int .i64 a.initial, la, ea, .int .i64 b.states, .int .i64 b.initial, lb, eb, .func (.func fid) #[] caps] 95) := ⟨_, rfl⟩
 have hb : Below w.heap.size w W := by rw [hW]; exact (Below.refl _ _).alloc (Nat.le_refl _) _
 have hR : Blk W rb [.int .i64 a.states, .int .i64 a.initial, la, ea, .int .i64 b.states, .int .i64 b.initial, lb, eb, .func (.func fid) #[] caps] 95 := by rw [hW, hrb]; exact Blk.new w _ _
 have HAN : Hid (∀ w', Below W.heap.size W w' → Calls Tryz.prog 84 #[.agg #[.int .i64 a.states, .int .i64 a.initial, la, ea, .int .i64 b.states, .int .i64 b.initial, lb, eb, .func (.func fid) #[] caps], .int .i64 x, .int .i64 y, .func (.func 86) #[] #[]] w' fun e w'' => e = .returned (.bool (ansG a b N x y)) ∧ Below w'.heap.size w' w'') := fun w' hw' => by
  have hb' := hb.trans (hw'.mono hb.size)
  have := answered_any lo fid 86 caps a b la ea lb eb (fun e => strongB b N y (labAt a e) e.dst) x y w' hva (hla.below hb') (hea.below hb') (fun args w => by kernel_rfl) (fun w2 h2 e he => by
   have h3 := hb'.trans (h2.mono hb'.size)
   obtain ⟨i, hi, rfl⟩ := List.mem_iff_getElem.1 (List.mem_filter.1 he).1
   have hok := hva.edge i hi
   exact strongly_any lo fid caps N a b la ea lb eb x y _ (labAt a a.edges[i]) w2 hvb (hlb.below h3) (heb.below h3) eg (hH.below h3) hok.d0 (by have := hok.d1; have := hva.st1; omega))
  rw [answered_eq] at this
  exact this
 have HB := Lib.hid hb
 have HW := Lib.hid hW
 have HRB := Lib.hid hrb
 have hsW : w.heap.size ≤ W.heap.size := hb.size
 have HR := Lib.hid hR
 clear hva hvb hla hea hlb heb hH hb hR hW hrb
 go_enter Tryz.func64, Tryz.ntmps64
 go_wp2
 rw [← HW.out]
 try rw [← HRB.out]
 refine wp_region_later (by kernel_rfl) (by kernel_rfl) ?_
 repeat (go_big_quiet_step ((fail)))
 refine wpQuiet_nil ?_
 intro _ hw9
 obtain ⟨nl, hw8⟩ := hw9
 subst hw8
 have HNL := Lib.hid (HB.out.trans (nl.h.mono hsW))
 have HC := Lib.hid (HAN.out nl.w nl.h)
 have hRN := HR.out.below nl.h
 have r0 := hRN.cell 0 rfl
 have r1 := hRN.cell 1 rfl
 have r2 := hRN.cell 2 rfl
 have r3 := hRN.cell 3 rfl
 have r4 := hRN.cell 4 rfl
 have r5 := hRN.cell 5 rfl
 have r6 := hRN.cell 6 rfl
 have r7 := hRN.cell 7 rfl
 have r8 := hRN.cell 8 rfl
 have hsN : w.heap.size ≤ nl.w.heap.size := HNL.out.size
 clear hRN
 go_wp2_with fail
 refine Calls.mono HC.out ?_
 rintro e w2 ⟨rfl, hb2⟩
 have HB2 := Lib.hid (HNL.out.trans (hb2.mono hsN))
 clear hb2 HC
 go_wp2
 go_ret
 exact ⟨rfl, HB2.out⟩

end Go.Proofs.YtbjbjbnbapeajaaGreatDoor
