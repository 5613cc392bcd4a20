/-
  Ranging over a set that is a map: the laws at the operations.
  Pairs of states as keys of a map.
  Ranging over a set of pairs: the step with the pair written out; the number of pairs.
  The program's list of the pairs of a map, in order.
  The library's slices.IndexFunc and slices.ContainsFunc at a slice of numbers, with a function that may lay blocks of its own.
  The program's strongly: an edge is answered by an edge of the same label whose end is in the relation.
  What the implementation's out computes: the edges from a state.
  The program's answered and simulated (plain simulations).
  The program's simulation: the greatest set of pairs by rounds over a map.
-/
import Derived.Test.YtbjbjbnbapeajaaGreatDoorQ10
import Derived.Maps.RangeWalk
import Derived.Test.YtbjbjbnbapeajaaGreatDoorProg
import Derived.DeepKeys4
import Derived.Sort.LoopGhostIn
import Derived.Test.YtbjbjbnbapeajaaGreatDoorQ1
import Derived.Test.YtbjbjbnbapeajaaGreatDoorQ5
import Derived.Test.YtbjbjbnbapeajaaGreatDoorQ3
import Derived.Test.YtbjbjbnbapeajaaGreatDoorQ6
import Derived.Laws.EntriesVeiled
namespace Go.Proofs.YtbjbjbnbapeajaaGreatDoor
open Go Go.RowKit Go.ChangeMaps Go.MapKept
open Go.Maps (Keyed)

section
variable {P : Program} {k t e : TypeId} {w : World} {b : Nat} {ks : List Value}

theorem entG_born (ks : List Value) : ((entG ks).toList.map (·.born)).Nodup := by
 have h : (entG ks).toList.map (·.born) = List.range ks.length := by
  unfold entG
  apply List.ext_getElem (by simp)
  intro i h1 h2
  simp
 rw [h]
 exact List.nodup_range
theorem SetMap.entry (h : SetMap w b ks) {r i : Nat} {seen : Array Nat} (hlt : i < ks.length) (hi : IterG w r b ks.length (seen.push i)) :
  (Instr.entry (.pointer (some ⟨r, 0, none⟩))).run P w = .ok (.tuple #[ks[i], .bool true]) w := by
 have hm : (⟨ks[i], .bool true, i⟩ : MapEntry) ∈ (entG ks).toList := by
  unfold entG
  simp only [List.mem_mapIdx]
  exact ⟨i, hlt, rfl⟩
 exact run_entry_at (P := P) w r b ks.length seen (entG ks) ks.length ⟨ks[i], .bool true, i⟩ hi h hm (entG_born ks)
theorem SetMap.notIter (h : SetMap w b ks) {r n : Nat} {seen : Array Nat} (hi : IterG w r b n seen) : b ≠ r := by
 intro e
 subst e
 unfold SetMap at h
 unfold IterG at hi
 rw [h] at hi
 cases hi

/-- 'range m'. -/
theorem wpList_range_set {ops : Array Oper} {rest : List Oper} {o : Oper} {a : Act} {Q : Exit → Act → World → Prop} (hg : o.guard = none) (m : Operand) (hop : o.op = Op.range t m) (ht : P.underlying t = some (.map k e)) (hm : a.eval m = .map (some b)) (h : SetMap w b ks)
  (hK : wpList P ops Q rest (a.put o.dst (.pointer (some ⟨w.heap.size, 0, none⟩))) (w.alloc (.mapIter (some b) ks.length #[] ks.length))) :
  wpList P ops Q (o :: rest) a w := by
 refine wpList_plain hg fun K' hK' => ?_
 have hrun := h.range (P := P) ht
 unfold Oper.wp
 simp [execOp, hop, hm, hrun, Result.andThen]
 exact hK' _ _ hK
/-- The step: nothing is left, or a key that was not handed out. -/
theorem wpList_next_set {ops : Array Oper} {rest : List Oper} {o : Oper} {a : Act} {Q : Exit → Act → World → Prop} (hg : o.guard = none) (it : Operand) (hop : o.op = Op.next it false) {r : Nat} {seen : Array Nat} (hit : a.eval it = .pointer (some ⟨r, 0, none⟩)) (h : SetMap w b ks) (hi : IterG w r b ks.length seen)
  (hDone : (∀ i, i < ks.length → i ∈ seen) → wpList P ops Q rest (a.put o.dst (.tuple #[.bool false])) w)
  (hMore : ∀ (i : Nat) (hlt : i < ks.length) (w' : World), i ∉ seen → IterG w' r b ks.length (seen.push i) → w.grownBy w' (some r) → (Instr.entry (.pointer (some ⟨r, 0, none⟩))).run P w' = .ok (.tuple #[ks[i], .bool true]) w' →
   wpList P ops Q rest (a.put o.dst (.tuple #[.bool true, ks[i], .bool true])) w') :
  wpList P ops Q (o :: rest) a w := by
 refine wpList_plain hg fun K' hK' => ?_
 unfold Oper.wp
 rcases h.next (P := P) hi o.type with ⟨h1, hrun⟩ | ⟨i, hlt, hn, w', hrun, hi', hgr⟩
 ·simp [execOp, hop, hit, hrun, Result.andThen]
  exact hK' _ _ (hDone h1)
 ·simp [execOp, hop, hit, hrun, Result.andThen]
  exact hK' _ _ (hMore i hlt w' hn hi' hgr (SetMap.entry (h.kept hgr (by simpa using h.notIter hi)) hlt hi'))

end
end Go.Proofs.YtbjbjbnbapeajaaGreatDoor

namespace Go.Proofs.YtbjbjbnbapeajaaGreatDoor
open Go Go.RowKit
open Go.Maps (Keyed)

def key2 (q : Int × Int) : Value := .agg #[.int .i64 q.1, .int .i64 q.2]
theorem key2_inj {a b : Int × Int} (h : key2 a = key2 b) : a = b := by
 obtain ⟨x, y⟩ := a
 obtain ⟨u, v⟩ := b
 simpa [key2] using h
theorem underMap2 : Tryz.prog.underlying 64 = some (.map 92 4) := Tryz.underlying64
theorem laidOut2 : laidOutB Tryz.prog = true := by kernel_rfl
theorem row2Ok : (92 : TypeId) < Tryz.prog.types.size := of_decide_eq_true (by kernel_rfl)
theorem wide2 : (match Tryz.prog.underlying 92 with | some (.array _ _) | some (.struct _) => true | _ => false) = true := by rw [Tryz.underlying92]
set_option maxRecDepth 100000 in
theorem law2 : WideMaps.KeyLaw Tryz.prog 92 := deep_law_laid laidOut2 (m := 2) (by omega) row2Ok (by kernel_rfl) wide2
theorem keyed2 : Keyed Tryz.prog 92 := Keyed.of_law law2
theorem cells2Ok : Tryz.prog.cellsOf 92 = 2 := by kernel_rfl
theorem cellsI2 : Tryz.prog.cellsOf 2 = 1 := by kernel_rfl
theorem keyType2 : Tryz.prog.keyType 92 = true := by kernel_rfl
theorem zeroBool2 (w : World) : (zeroValue 4).run Tryz.prog w = .ok (.bool false) w := by kernel_rfl
theorem wf_small2 {n : Int} (h0 : 0 ≤ n) (h1 : n < 40) : (Lit.int .i64 n).wf = true := by
 have h2 : IntKind.i64.min = -9223372036854775808 := by decide
 have h3 : IntKind.i64.max = 9223372036854775807 := by decide
 show (decide (IntKind.i64.min ≤ n) && decide (n ≤ IntKind.i64.max)) = true
 rw [h2, h3, decide_eq_true (by omega), decide_eq_true (by omega)]
 rfl
/-- A pair of small numbers. -/
def Small2 (q : Int × Int) : Prop := (0 ≤ q.1 ∧ q.1 < 40) ∧ 0 ≤ q.2 ∧ q.2 < 40
set_option maxRecDepth 100000 in
theorem keyOf2 {q : Int × Int} (h : Small2 q) : ∃ l, keyOf Tryz.prog 92 (key2 q) = some l := by
 obtain ⟨⟨a0, a1⟩, b0, b1⟩ := h
 have wa := wf_small2 a0 a1
 have wb := wf_small2 b0 b1
 obtain ⟨m, hm⟩ : ∃ m, Tryz.prog.types.size = m + 1 := ⟨_, Nat.succ_pred_eq_of_pos (Nat.lt_of_le_of_lt (Nat.zero_le _) row2Ok) |>.symm⟩
 refine ⟨.string (keyBytes [.int .i64 q.1, .int .i64 q.2]), ?_⟩
 unfold keyOf key2
 simp only [Tryz.underlying92]
 rw [if_pos (by simp [keyType2, Value.formed, Tryz.underlying92, cells2Ok]), hm]
 unfold Program.keyLits
 simp only [Tryz.underlying92, Value.cells]
 rw [if_pos (by rw [cells2Ok]; rfl), show List.range 2 = [0, 1] from rfl, List.mapM_cons, List.mapM_cons, List.mapM_nil]
 simp [cellsI2, Program.keyLits, Tryz.underlying2, wa, wb]

/-- A set of pairs as a map: its pairs in the order in which they came. -/
structure PairMap (w : World) (b : Nat) (ps : List (Int × Int)) : Prop where
 map : SetMap w b (ps.map key2)
 nodup : ps.Nodup
 small : ∀ q ∈ ps, Small2 q
theorem PairMap.keys {w : World} {b : Nat} {ps : List (Int × Int)} (h : PairMap w b ps) : ∀ v ∈ ps.map key2, ∃ l, keyOf Tryz.prog 92 v = some l := fun v hv => by
 obtain ⟨q, hq, rfl⟩ := List.mem_map.1 hv
 exact keyOf2 (h.small q hq)
theorem PairMap.below {w w' : World} {b : Nat} {ps : List (Int × Int)} (h : PairMap w b ps) (hb : Below w.heap.size w w') : PairMap w' b ps := ⟨h.map.below hb, h.nodup, h.small⟩
theorem PairMap.kept {w w' : World} {b : Nat} {ps : List (Int × Int)} {row : Option Nat} (h : PairMap w b ps) (hg : w.grownBy w' row) (hne : some b ≠ row) : PairMap w' b ps := ⟨h.map.kept hg hne, h.nodup, h.small⟩
theorem mem_key2 {ps : List (Int × Int)} {q : Int × Int} : key2 q ∈ ps.map key2 ↔ q ∈ ps := by
 constructor
 ·intro h
  obtain ⟨r, hr, e⟩ := List.mem_map.1 h
  rw [← key2_inj e]
  exact hr
 ·exact fun h => List.mem_map.2 ⟨q, h, rfl⟩
/-- Is the pair there? -/
theorem PairMap.look {w : World} {b : Nat} {ps : List (Int × Int)} (h : PairMap w b ps) {q : Int × Int} (hq : Small2 q) :
  (Instr.lookup 64 (.map (some b)) (key2 q) false).run Tryz.prog w = .ok (.bool (decide (q ∈ ps))) w := by
 by_cases hm : q ∈ ps
 ·rw [decide_eq_true hm]
  exact h.map.found keyed2 underMap2 h.keys (mem_key2.2 hm)
 ·rw [decide_eq_false hm]
  obtain ⟨kl, hkl⟩ := keyOf2 hq
  exact h.map.missing keyed2 underMap2 h.keys (zeroBool2 w) hkl (fun k => hm (mem_key2.1 k))
theorem PairMap.push {w : World} {b : Nat} {ps : List (Int × Int)} (h : PairMap w b ps) {q : Int × Int} (hq : Small2 q) (hn : q ∉ ps) (hroom : ps.length ≤ 1000000) :
  ∃ w', (Instr.mapUpdate 64 (.map (some b)) (key2 q) (.bool true)).run Tryz.prog w = .ok () w' ∧ PairMap w' b (ps ++ [q]) ∧ w.grownBy w' (some b) := by
 obtain ⟨kl, hkl⟩ := keyOf2 hq
 obtain ⟨w', h1, h2, h3⟩ := h.map.store keyed2 underMap2 h.keys hkl (fun k => hn (mem_key2.1 k)) (by rw [List.length_map]; unfold maxLen; omega)
 refine ⟨w', h1, ⟨by rw [List.map_append]; exact h2, ?_, fun r hr => ?_⟩, h3⟩
 ·rw [List.nodup_append]
  refine ⟨h.nodup, by simp, ?_⟩
  intro a ha b hb e
  rw [List.mem_singleton] at hb
  subst hb
  subst e
  exact hn ha
 ·rcases List.mem_append.1 hr with hr | hr
  ·exact h.small r hr
  ·rw [List.mem_singleton] at hr
   subst hr
   exact hq

end Go.Proofs.YtbjbjbnbapeajaaGreatDoor

namespace Go.Proofs.YtbjbjbnbapeajaaGreatDoor
open Go Go.RowKit Go.ChangeMaps Go.MapKept

theorem wpList_next_pairs {w : World} {b : Nat} {ps : List (Int × Int)} {ops : Array Oper} {rest : List Oper} {o : Oper} {a : Act} {Q : Exit → Act → World → Prop} (hg : o.guard = none) (it : Operand) (hop : o.op = Op.next it false) {r : Nat} {seen : Array Nat} (hit : a.eval it = .pointer (some ⟨r, 0, none⟩)) (h : PairMap w b ps) (hi : IterG w r b ps.length seen)
  (hDone : (∀ i, i < ps.length → i ∈ seen) → wpList Tryz.prog ops Q rest (a.put o.dst (.tuple #[.bool false])) w)
  (hMore : ∀ (i : Nat) (hlt : i < ps.length) (x y : Int) (w' : World), ps[i] = (x, y) → i ∉ seen → IterG w' r b ps.length (seen.push i) → w.grownBy w' (some r) → (Instr.entry (.pointer (some ⟨r, 0, none⟩))).run Tryz.prog w' = .ok (.tuple #[.agg #[.int .i64 x, .int .i64 y], .bool true]) w' →
   wpList Tryz.prog ops Q rest (a.put o.dst (.tuple #[.bool true, .agg #[.int .i64 x, .int .i64 y], .bool true])) w') :
  wpList Tryz.prog ops Q (o :: rest) a w := by
 have hl : (ps.map key2).length = ps.length := List.length_map _
 refine wpList_next_set hg it hop hit h.map (by rw [hl]; exact hi) (fun hd => hDone (fun i hi' => hd i (by rw [hl]; exact hi'))) (fun i hlt w' hn hi' hgr hen => ?_)
 have hlt' : i < ps.length := by rw [← hl]; exact hlt
 obtain ⟨x, y, hxy⟩ : ∃ x y, ps[i] = (x, y) := ⟨_, _, rfl⟩
 have hk : (ps.map key2)[i] = .agg #[.int .i64 x, .int .i64 y] := by rw [List.getElem_map, hxy]; rfl
 rw [hk] at hen ⊢
 rw [hl] at hi'
 exact hMore i hlt' x y w' hxy hn hi' hgr hen
theorem wpList_range_pairs {w : World} {b : Nat} {ps : List (Int × Int)} {ops : Array Oper} {rest : List Oper} {o : Oper} {a : Act} {Q : Exit → Act → World → Prop} (hg : o.guard = none) (m : Operand) (hop : o.op = Op.range 64 m) (hm : a.eval m = .map (some b)) (h : PairMap w b ps)
  (hK : wpList Tryz.prog ops Q rest (a.put o.dst (.pointer (some ⟨w.heap.size, 0, none⟩))) (w.alloc (.mapIter (some b) ps.length #[] ps.length))) :
  wpList Tryz.prog ops Q (o :: rest) a w := by
 have hl : (ps.map key2).length = ps.length := List.length_map _
 have h2 := wpList_range_set (P := Tryz.prog) (ops := ops) (rest := rest) (Q := Q) hg m hop underMap2 hm h.map
 rw [hl] at h2
 exact h2 hK
theorem PairMap.len {w : World} {b : Nat} {ps : List (Int × Int)} (h : PairMap w b ps) (ty : TypeId) : (Builtin.len_ #[64] ty #[.map (some b)]).run Tryz.prog w = .ok (.int .i64 ps.length) w := by
 have hb : w.heap[b]? = some (.map (entG (ps.map key2)) (ps.map key2).length) := h.map
 have hs : (entG (ps.map key2)).size = ps.length := by rw [entG_size, List.length_map]
 simp [Builtin.len_, run_underlying underMap2, MapKept.run_getObj_map hb, goInt, Result.andThen, hs]

theorem blk_set_ne {w : World} {b m : Nat} {cs : List Value} {t : TypeId} {ks : List Value} (h : Blk w b cs t) (k : SetMap w m ks) : b ≠ m := by
 intro e
 subst e
 unfold Blk at h
 unfold SetMap at k
 rw [h] at k
 cases k
theorem set_iter_ne {w : World} {b r m n : Nat} {ks : List Value} {seen : Array Nat} (h : SetMap w b ks) (k : IterG w r m n seen) : b ≠ r := by
 intro e
 subst e
 unfold SetMap at h
 unfold IterG at k
 rw [h] at k
 cases k
theorem blk_iter_ne {w : World} {b r m n : Nat} {cs : List Value} {t : TypeId} {seen : Array Nat} (h : Blk w b cs t) (k : IterG w r m n seen) : b ≠ r := by
 intro e
 subst e
 unfold Blk at h
 unfold IterG at k
 rw [h] at k
 cases k
theorem blk_type_ne {w : World} {b c : Nat} {cs ds : List Value} {t u : TypeId} (h : Blk w b cs t) (k : Blk w c ds u) (ht : t ≠ u) : b ≠ c := by
 intro e
 subst e
 unfold Blk at h k
 rw [h] at k
 simp only [Option.some.injEq, Obj.cells.injEq] at k
 exact ht k.2.1
theorem blk_grown {w w' : World} {b m : Nat} {cs : List Value} {t : TypeId} (h : Blk w b cs t) (hg : w.grownBy w' (some m)) (hne : b ≠ m) : Blk w' b cs t := (hg.block b h.lt (by simpa using hne)).trans h

end Go.Proofs.YtbjbjbnbapeajaaGreatDoor

namespace Go.Proofs.YtbjbjbnbapeajaaGreatDoor
open Go Go.RowKit

theorem own_iter_ne {w : World} {base e size n : Nat} {v : Value} {xs : List Value} (h : w.ownsRow base e size v n xs) {r m k : Nat} {seen : Array Nat} (hi : IterG w r m k seen) : v.ownBlock = none ∨ v.ownBlock ≠ some r := by
 rcases h.2 with ⟨rfl, -⟩ | ⟨g, cap, cur, rfl, -, hg, -⟩
 ·exact .inl rfl
 ·refine .inr fun e => ?_
  have : g = r := Option.some.inj e
  subst this
  unfold IterG at hi
  rw [hg] at hi
  cases hi
theorem OwnIntss.iter {eo ei lo : Nat} {w w' : World} {v : Value} {vs : List Value} {xss : List (List Int)} (h : OwnIntss eo ei lo w v vs xss) {r m k : Nat} {seen : Array Nat} (hi : IterG w r m k seen) (hg : w.grownBy w' (some r)) : OwnIntss eo ei lo w' v vs xss := by
 obtain ⟨h1, h2, h3, h4, h5⟩ := h
 exact ⟨h1, h2.kept hg (own_iter_ne h2 hi), fun i hi1 hi2 => (h3 i hi1 hi2).kept hg (own_iter_ne (h3 i hi1 hi2) hi), h4, h5⟩
theorem iter_own_ne {w : World} {base e size n : Nat} {v : Value} {xs : List Value} (h : w.ownsRow base e size v n xs) {r m k : Nat} {seen : Array Nat} (hi : IterG w r m k seen) : some r ≠ v.ownBlock := by
 rcases own_iter_ne h hi with e | e
 ·rw [e]; exact fun k => by cases k
 ·exact fun k => e k.symm
theorem own_pairs_ne {w : World} {base e size n : Nat} {v : Value} {xs : List Value} (h : w.ownsRow base e size v n xs) {b : Nat} {ps : List (Int × Int)} (hi : PairMap w b ps) : some b ≠ v.ownBlock := by
 rcases h.2 with ⟨rfl, -⟩ | ⟨g, cap, cur, rfl, -, hg, -⟩
 ·exact fun k => by cases k
 ·intro k
  have : b = g := Option.some.inj k
  subst this
  have h2 := hi.map
  unfold SetMap at h2
  rw [hg] at h2
  cases h2
theorem pairs_few {S P : Nat} {ps : List (Int × Int)} (hn : ps.Nodup) (hS : S ≤ 40) (hP : P ≤ 40) (hr : ∀ q ∈ ps, (0 ≤ q.1 ∧ q.1 < S) ∧ 0 ≤ q.2 ∧ q.2 < P) : ps.length ≤ 1600 := by
 have h := nodup_sub_len (b := pall P S) hn fun q hq => mem_pall.2 (hr q hq)
 rw [pall_len] at h
 exact Nat.le_trans h (Nat.mul_le_mul hS hP)

set_option maxRecDepth 100000 in
set_option maxHeartbeats 1000000 in
theorem setList_any (mb S P : Nat) (ps : List (Int × Int)) (w : World) (hS : S ≤ 40) (hP : P ≤ 40) (hp : PairMap w mb ps) (hr : ∀ q ∈ ps, (0 ≤ q.1 ∧ q.1 < S) ∧ 0 ≤ q.2 ∧ q.2 < P) :
  Calls Tryz.prog 36 #[.map (some mb)] w fun e w' => ∃ (v : Value) (vs' : List Value), e = .returned v ∧ Below w.heap.size w w' ∧ OwnIntss 68 2 w.heap.size w' v vs' (pairsL S P (setOf ps)) := by
 have hfew := pairs_few hp.nodup hS hP hr
 obtain ⟨PL, hPL⟩ : ∃ PL, PL = ps.length := ⟨_, rfl⟩
 obtain ⟨ir, hir⟩ : ∃ ir, ir = w.heap.size := ⟨_, rfl⟩
 obtain ⟨W, hW⟩ : ∃ W, W = w.alloc (.mapIter (some mb) PL #[] PL) := ⟨_, rfl⟩
 have hb : Below w.heap.size w W := by rw [hW]; exact (Below.refl _ _).alloc (Nat.le_refl _) _
 have HI : Hid (IterG W ir mb PL #[]) := by unfold Hid; rw [hW, hir]; exact IterG.start _ _ _
 have HMW : Hid (PairMap W mb ps) := hp.below hb
 have HM := Lib.hid hp
 have HBW := Lib.hid hb
 have HW := Lib.hid hW
 have HPL := Lib.hid hPL
 have HIR := Lib.hid hir
 have HRN := Lib.hid hr
 have HFW := Lib.hid hfew
 obtain ⟨i0, hi0, hz0, hz1, hz2⟩ := info_parts info_intsP
 clear hp hr hb hW hPL hfew hir
 go_enter Tryz.func36, Tryz.ntmps36
 go_wp2_with (at_range; refine wpList_range_pairs rfl _ rfl rfl HM.out ?_)
 try go_frame
 rw [← HPL.out, ← HW.out, ← HIR.out]
 go_loopg [3] 1601 (fun gk v3 wr => ∃ (seen : Array Nat) (qs : List (Int × Int)) (vs' : List Value) (p3 : Option Addr) (n3 c3 : Nat), v3 = .slice p3 n3 c3 ∧ PL - seen.size ≤ gk ∧ KeptSo (fun _ => true) ps qs seen ∧ qs.Nodup ∧ PairMap wr mb ps ∧ IterG wr ir mb PL seen ∧ Below w.heap.size w wr ∧ OwnIntss 68 2 w.heap.size wr v3 vs' (qs.map rowQ))
 case atStart => exact ⟨#[], [], [], none, 0, 0, rfl, by have := HFW.out; have := HPL.out; simp; omega, KeptSo.start _ _, List.nodup_nil, HMW.out, HI.out, HBW.out, ⟨rfl, World.ownsRow_nil _ _ _ _, fun _ h _ => absurd h (Nat.not_lt_zero _), fun _ _ h _ _ => absurd h (Nat.not_lt_zero _), fun _ h => absurd h (Nat.not_lt_zero _)⟩⟩
 case round =>
  clear HMW HI HBW HM
  obtain ⟨seen, qs, vs', p3, n3, c3, rfl, hgk, hks, hqn, hpm, hit, hb, ho⟩ := hrel
  obtain ⟨wF, rfl⟩ : ∃ wF : World, wF = wr := ⟨_, rfl⟩
  have HGK := Lib.hid hgk
  have HKS := Lib.hid hks
  have HQN := Lib.hid hqn
  have HPM := Lib.hid hpm
  have HIT := Lib.hid hit
  have HB := Lib.hid hb
  have HO := Lib.hid ho
  have hql : qs.length ≤ 1600 := Nat.le_trans (hks.few hqn) HFW.out
  have hsz : w.heap.size ≤ wF.heap.size := hb.size
  have HSR := Lib.hid (SortQ_own w.heap.size (.slice p3 n3 c3) vs' qs wF ho (by omega))
  clear hgk hks hqn hpm hit hb ho
  go_wp2_with (first
   | (at_next; refine wpList_next_pairs rfl _ rfl rfl HPM.out (by rw [← HPL.out]; exact HIT.out) ?_ ?_)
   | fail)
  ·intro hall
   have HALL : Hid (∀ q, q ∈ qs ↔ q ∈ ps) := fun q => by rw [HKS.out.all hall q]; simp
   clear hall
   go_wp2_with fail
   refine Calls.mono HSR.out ?_
   rintro e w2 ⟨rfl, vs2, rs, hperm, hsort, ho2, hg2⟩
   have HEND : Hid (rs.map rowQ = pairsL S P (setOf ps)) := pairs_sorted (fun q => by rw [hperm.mem_iff]; exact HALL.out q) (hperm.nodup_iff.2 HQN.out) hsort HRN.out
   have HO2 := Lib.hid ho2
   have HB2 : Hid (Below w.heap.size w w2) := HB.out.grown hg2 hsz (fun b e => (HO.out.2.1.lt b e).1)
   clear hperm hsort ho2 hg2 HSR
   go_wp2
   go_ret
   exact ⟨_, vs2, rfl, HB2.out, by rw [← HEND.out]; exact HO2.out⟩
  ·intro i hi x y w1 hxy hns hit1 hg1 hen
   rw [← HPL.out] at hit1
   have hwi : w.heap.size ≤ ir := by rw [HIR.out]; exact Nat.le_refl _
   have HM1 : Hid (PairMap w1 mb ps) := HPM.out.kept hg1 (by simpa using set_iter_ne HPM.out.map HIT.out)
   have HI1 := Lib.hid hit1
   have HO1 : Hid (OwnIntss 68 2 w.heap.size w1 (.slice p3 n3 c3) vs' (qs.map rowQ)) := HO.out.iter HIT.out hg1
   have HB1 : Hid (Below w.heap.size w w1) := HB.out.grown hg1 hsz (fun b e => by cases e; exact hwi)
   have hs1 : w.heap.size ≤ w1.heap.size := HB1.out.size
   have hvl : vs'.length ≤ 1600 := by rw [HO1.out.1, List.length_map]; exact hql
   have HKY : Hid (KeptSo (fun _ => true) ps (qs ++ [(x, y)]) (seen.push i)) := HKS.out.yesAt hi hns hxy rfl
   have HQ2 : Hid ((qs ++ [(x, y)]).Nodup) := by
    have hf := HKS.out.freshAt HM1.out.nodup hi hns hxy
    unfold Hid
    rw [List.nodup_append]
    refine ⟨HQN.out, by simp, fun a ha b hb e => ?_⟩
    rw [List.mem_singleton] at hb
    rw [hb] at e
    rw [e] at ha
    exact hf ha
   clear hi hxy hns hit1 hg1 hql HSR
   go_wp2_with (at_builtin; refine wpList_append_own _ rfl _ _ 36 rfl w.heap.size 68 i0 (.slice none 0 0) 1 24 Tryz.underlying36 hi0 hz0 hz1 hz2 rfl (by decide) _ _ _ rfl (((HO1.out.2.1.alloc _).alloc _).alloc _) ⟨w1.heap.size + 1 + 1, 0, none⟩ 1 1 [.slice (some ⟨w1.heap.size + 1, 0, none⟩) 2 2] rfl rfl ?c1 ?c2 ?c3 ?c4 ?c5 ?_)
   case c1 => have h := cell_one_new ((w1.alloc (.cells #[.int .i64 x, .int .i64 y] 92)).alloc (.cells #[.int .i64 x, .int .i64 y] 2)) (.slice (some ⟨w1.heap.size + 1, 0, none⟩) 2 2) 68; simpa using h
   case c2 => first | rfl | (intro u hu; simp at hu; subst hu; rfl)
   case c3 => simp [maxLen]; omega
   case c4 => omega
   case c5 => first | omega | (simp; omega)
   intro v' w3 ho3 hg3 _
   have hbA : Below w1.heap.size w1 (((w1.alloc (.cells #[.int .i64 x, .int .i64 y] 92)).alloc (.cells #[.int .i64 x, .int .i64 y] 2)).alloc (.cells #[.slice (some ⟨w1.heap.size + 1, 0, none⟩) 2 2] 68)) := (((Below.refl _ _).alloc (Nat.le_refl _) _).alloc (by simp) _).alloc (by simp; omega) _
   have HB3 : Hid (Below w.heap.size w w3) := (HB1.out.trans (hbA.mono hs1)).grown hg3 (by simp; omega) (fun b e => (HO1.out.2.1.lt b e).1)
   have HO3 : Hid (OwnIntss 68 2 w.heap.size w3 v' (vs' ++ [.slice (some ⟨w1.heap.size + 1, 0, none⟩) 2 2]) ((qs ++ [(x, y)]).map rowQ)) := by
    unfold Hid
    rw [List.map_append]
    refine OwnIntss.push (B := w1.heap.size) (xs := rowQ (x, y)) (by decide) HO1.out (Nat.le_refl _) hbA ?_ hs1 hg3 ho3
    have h := (World.ownsRow_lit (base := w1.heap.size) (size := 1) (w1.alloc (.cells #[.int .i64 x, .int .i64 y] 92)) #[.int .i64 x, .int .i64 y] (e := 2) 2 (by simp) (by simp [maxLen]) rfl).alloc (.cells #[.slice (some ⟨w1.heap.size + 1, 0, none⟩) 2 2] 68)
    simpa [rowQ] using h
   have HM3 : Hid (PairMap w3 mb ps) := (HM1.out.below hbA).kept hg3 (own_pairs_ne (owns_below HO1.out.2.1 hbA) (HM1.out.below hbA))
   have HI3 : Hid (IterG w3 ir mb PL (seen.push i)) := (HI1.out.below hbA).kept hg3 (iter_own_ne (owns_below HO1.out.2.1 hbA) (HI1.out.below hbA))
   obtain ⟨p4, c4, rfl, -, -⟩ := owns_slice ho3
   clear ho3 hg3 hbA
   go_wp2
   go_roundg (PL - (seen.size + 1))
   case measure => have := HGK.out; have := HKY.out.push_size; have := HPL.out; omega
   case rel => exact ⟨seen.push i, qs ++ [(x, y)], _, p4, _, c4, rfl, by simp, HKY.out, HQ2.out, HM3.out, HI3.out, HB3.out, HO3.out⟩

end Go.Proofs.YtbjbjbnbapeajaaGreatDoor

namespace Go.Proofs.YtbjbjbnbapeajaaGreatDoor
open Go Go.RowKit

def idxI (P : Int → Bool) (xs : List Int) : Int := if xs.findIdx P < xs.length then (xs.findIdx P : Nat) else -1
theorem idxI_neg {P : Int → Bool} {xs : List Int} : idxI P xs = -1 ↔ ∀ x ∈ xs, P x = false := by
 unfold idxI
 by_cases h : xs.findIdx P < xs.length
 ·rw [if_pos h]
  refine ⟨fun e => by omega, fun h2 => ?_⟩
  obtain ⟨x, hx, hp⟩ := List.findIdx_lt_length.1 h
  rw [h2 x hx] at hp
  cases hp
 ·rw [if_neg h]
  refine ⟨fun _ x hx => ?_, fun _ => rfl⟩
  cases hp : P x
  ·rfl
  ·exact absurd (List.findIdx_lt_length.2 ⟨x, hx, hp⟩) h
theorem idxI_any {P : Int → Bool} {xs : List Int} : decide (0 ≤ idxI P xs) = xs.any P := by
 unfold idxI
 by_cases h : xs.findIdx P < xs.length
 ·rw [if_pos h]
  obtain ⟨x, hx, hp⟩ := List.findIdx_lt_length.1 h
  rw [List.any_eq_true.2 ⟨x, hx, hp⟩]
  simp
 ·rw [if_neg h]
  have : xs.any P = false := by
   rw [List.any_eq_false]
   intro x hx hp
   exact h (List.findIdx_lt_length.2 ⟨x, hx, hp⟩)
  rw [this]
  rfl
/-- A function of one element that answers P, and turns nothing that was there. -/
def AskI (fid : Nat) (caps : Array Value) (P : Int → Bool) (xs : List Int) (B : Nat) (w : World) : Prop :=
 ∀ w', Below B w w' → ∀ x ∈ xs, Calls Tryz.prog fid (#[.int .i64 x] ++ caps) w' fun e w'' => e = .returned (.bool (P x)) ∧ Below w'.heap.size w' w''

set_option maxRecDepth 100000 in
set_option maxHeartbeats 1000000 in
theorem IndexFuncI (lo : Nat) (v : Value) (xs : List Int) (fid : Nat) (caps : Array Value) (P : Int → Bool) (w : World) (hv : SliceK 1 encI lo w v xs) (eg : ∀ args w, (callFunc fid args).run Tryz.prog w = .ok (.enter fid args) w) (hP : AskI fid caps P xs w.heap.size w) :
  Calls Tryz.prog 140 #[v, .func (.func fid) #[] caps] w fun e w' => e = .returned (.int .i64 (idxI P xs)) ∧ Below w.heap.size w w' := by
 obtain ⟨a, c, rfl, hcn, hcc, hrow⟩ := hv
 have HR := Lib.hid hrow
 have HP := Lib.hid hP
 clear hP hrow
 go_enter Tryz.func140, Tryz.ntmps140
 go_wp2_with fail
 go_loopw [8] (fun i wr => ∃ k : Nat, k ≤ xs.length ∧ i = .int .i64 k ∧ Below w.heap.size w wr ∧ ∀ j (h : j < xs.length), j < k → P xs[j] = false) (fun i _ => xs.length - (intOf i).toNat)
 case atStart => exact ⟨0, Nat.zero_le _, rfl, Below.refl _ _, fun _ _ h => by omega⟩
 case round =>
  obtain ⟨k, hk, rfl, hbl, ha⟩ := hrel
  have HA := Lib.hid ha
  have HBL := Lib.hid hbl
  clear ha
  by_cases hlt : k < xs.length
  ·obtain ⟨b1, o1, rfl, -, hbs, c1⟩ := (HR.out.below hbl).one hlt
   simp only [encI, List.getElem?_cons_zero] at c1
   clear hbl
   obtain ⟨x, hx⟩ : ∃ x, x = xs[k] := ⟨_, rfl⟩
   rw [← hx] at c1
   have HX := Lib.hid hx
   have HC := Lib.hid (HP.out wr HBL.out x (by rw [hx]; exact List.getElem_mem _))
   obtain ⟨b, hb⟩ : ∃ b, b = P x := ⟨_, rfl⟩
   rw [← hb] at HC
   have HB := Lib.hid hb
   clear hb hx
   go_wp2_with fail
   refine Calls.mono HC.out ?_
   rintro e w1 ⟨rfl, hb1⟩
   have HB1 := Lib.hid (HBL.out.trans (hb1.mono HBL.out.size))
   clear hb1 c1
   cases b
   ·go_wp2_with fail
    go_roundw
    case rel => exact ⟨k + 1, by omega, by go_num, HB1.out, fun j h hj => by
     by_cases e : j = k
     ·subst e; rw [← HX.out]; exact HB.out.symm
     ·exact HA.out j h (by omega)⟩
    case measure => simp [intOf]; omega
   ·have HI : Hid (idxI P xs = (k : Int)) := by
     unfold Hid idxI
     have h1 : xs.findIdx P = k := by
      rw [List.findIdx_eq hlt]
      exact ⟨by rw [← HX.out]; exact HB.out.symm, fun j hj => HA.out j (by omega) hj⟩
     rw [h1, if_pos hlt]
    go_wp2_with fail
    go_ret
    exact ⟨ret_int HI.out.symm, HB1.out⟩
  ·clear hbl
   have HI : Hid (idxI P xs = -1) := by
    unfold Hid
    rw [idxI_neg]
    intro x hx
    obtain ⟨j, hj, rfl⟩ := List.mem_iff_getElem.1 hx
    exact HA.out j hj (by omega)
   go_wp2_with fail
   go_ret
   exact ⟨ret_int HI.out.symm, HBL.out⟩

theorem ContainsFuncI (lo : Nat) (v : Value) (xs : List Int) (fid : Nat) (caps : Array Value) (P : Int → Bool) (w : World) (hv : SliceK 1 encI lo w v xs) (eg : ∀ args w, (callFunc fid args).run Tryz.prog w = .ok (.enter fid args) w) (hP : AskI fid caps P xs w.heap.size w) :
  Calls Tryz.prog 102 #[v, .func (.func fid) #[] caps] w fun e w' => e = .returned (.bool (xs.any P)) ∧ Below w.heap.size w w' := by
 have HC := Lib.hid (IndexFuncI lo v xs fid caps P w hv eg hP)
 clear hP
 go_enter Tryz.func102, Tryz.ntmps102
 go_wp2_with fail
 refine Calls.mono HC.out ?_
 rintro e w' ⟨rfl, hb⟩
 have HB := Lib.hid hb
 clear hb
 go_wp2_with fail
 go_ret
 exact ⟨ret_bool idxI_any, HB.out⟩

end Go.Proofs.YtbjbjbnbapeajaaGreatDoor

namespace Go.Proofs.YtbjbjbnbapeajaaGreatDoor
open Go Go.RowKit

/-- A function of two states that answers N, and turns nothing that was there. -/
def HasFn (fid : Nat) (caps : Array Value) (N : PairSet) (w : World) : Prop :=
 ∀ w', Below w.heap.size w w' → ∀ x y, Small2 (x, y) → Calls Tryz.prog fid (#[.int .i64 x, .int .i64 y] ++ caps) w' fun e w'' => e = .returned (.bool (N x y)) ∧ Below w'.heap.size w' w''
theorem HasFn.below {fid : Nat} {caps : Array Value} {N : PairSet} {w w' : World} (h : HasFn fid caps N w) (hb : Below w.heap.size w w') : HasFn fid caps N w' := fun w'' hb2 x y hs => h w'' (hb.trans (hb2.mono hb.size)) x y hs

set_option maxRecDepth 100000 in
theorem strongly1_any (rb vb fid : Nat) (caps : Array Value) (N : PairSet) (q0 q1 q2 q3 q4 q5 q6 q7 : Value) (v x : Int) (w : World) (hr : Blk w rb [q0, q1, q2, q3, q4, q5, q6, q7, .func (.func fid) #[] caps] 95) (hv : Blk w vb [.int .i64 v] 2)
  (eg : ∀ args w, (callFunc fid args).run Tryz.prog w = .ok (.enter fid args) w) (hH : HasFn fid caps N w) (hs : Small2 (v, x)) :
  Calls Tryz.prog 106 #[.int .i64 x, .pointer (some ⟨rb, 0, none⟩), .pointer (some ⟨vb, 0, none⟩)] w fun e w' => e = .returned (.bool (N v x)) ∧ Below w.heap.size w w' := by
 have HC := Lib.hid (hH w (Below.refl _ _) v x hs)
 have r8 := hr.cell 8 rfl
 have v0 := hv.cell 0 rfl
 obtain ⟨b, hb⟩ : ∃ b, b = N v x := ⟨_, rfl⟩
 rw [← hb] at HC ⊢
 clear hr hv hH hs hb
 go_enter Tryz.func106, Tryz.ntmps106
 go_wp2_with fail
 refine Calls.mono HC.out ?_
 rintro e w' ⟨rfl, hb1⟩
 have HB := Lib.hid hb1
 clear hb1 HC
 go_wp2_with fail
 go_ret
 exact ⟨rfl, HB.out⟩

theorem follow_small {b : Lts} (hv : Valid b) {cur : List Int} {l : ByteArray} {x v : Int} (h0 : 0 ≤ v) (h1 : v < 40) (hx : x ∈ followL b cur l) : Small2 (v, x) := by
 have hm := ((sort_compact_is (followR b cur l)).mem x).1 hx
 obtain ⟨e, he, -, -, rfl⟩ := mem_followR.1 hm
 obtain ⟨i, hi, rfl⟩ := List.mem_iff_getElem.1 he
 have hok := hv.edge i hi
 have h2 := hok.d0
 have h3 := hok.d1
 have h4 := hv.st1
 exact ⟨⟨h0, h1⟩, h2, by show b.edges[i].dst < 40; omega⟩

set_option maxRecDepth 100000 in
set_option maxHeartbeats 1000000 in
theorem strongly_any (lo fid : Nat) (caps : Array Value) (N : PairSet) (a b : Lts) (la ea lb eb : Value) (x y v : Int) (l : ByteArray) (w : World) (hvb : Valid b) (hlb : SliceK 1 encS lo w lb b.labels) (heb : SliceK 3 encE lo w eb b.edges)
  (eg : ∀ args w, (callFunc fid args).run Tryz.prog w = .ok (.enter fid args) w) (hH : HasFn fid caps N w) (h0 : 0 ≤ v) (h1 : v < 40) :
  Calls Tryz.prog 86 #[.agg #[.int .i64 a.states, .int .i64 a.initial, la, ea, .int .i64 b.states, .int .i64 b.initial, lb, eb, .func (.func fid) #[] caps], .int .i64 x, .int .i64 y, .string l, .int .i64 v] w fun e w' => e = .returned (.bool (strongB b N y l v)) ∧ Below w.heap.size w w' := by
 obtain ⟨rb, hrb⟩ : ∃ rb, rb = w.heap.size := ⟨_, rfl⟩
 obtain ⟨W, hW⟩ : ∃ W, W = ((w.alloc (.cells #[.int .i64 a.states, .int .i64 a.initial, la, ea, .int .i64 b.states, .int .i64 b.initial, lb, eb, .func (.func fid) #[] caps] 95)).alloc (.cells #[.int .i64 v] 2)).alloc (.cells #[.int .i64 y] 2) := ⟨_, rfl⟩
 have hb : Below w.heap.size w W := by rw [hW]; exact (((Below.refl _ _).alloc (Nat.le_refl _) _).alloc (by simp) _).alloc (by simp; omega) _
 have hR : Blk W rb [.int .i64 a.states, .int .i64 a.initial, la, ea, .int .i64 b.states, .int .i64 b.initial, lb, eb, .func (.func fid) #[] caps] 95 := by rw [hW, hrb]; exact ((Blk.new w _ _).alloc _).alloc _
 have hV : Blk W (rb + 1) [.int .i64 v] 2 := by
  have h := (Blk.new (w.alloc (.cells #[.int .i64 a.states, .int .i64 a.initial, la, ea, .int .i64 b.states, .int .i64 b.initial, lb, eb, .func (.func fid) #[] caps] 95)) [.int .i64 v] 2).alloc (.cells #[.int .i64 y] 2)
  rw [World.size_alloc, ← hrb] at h
  rw [hW]
  exact h
 have hY : Blk W (rb + 2) [.int .i64 y] 2 := by
  have h := Blk.new ((w.alloc (.cells #[.int .i64 a.states, .int .i64 a.initial, la, ea, .int .i64 b.states, .int .i64 b.initial, lb, eb, .func (.func fid) #[] caps] 95)).alloc (.cells #[.int .i64 v] 2)) [.int .i64 y] 2
  rw [World.size_alloc, World.size_alloc, ← hrb] at h
  rw [hW]
  exact h
 have hS : SliceK 1 encI 0 W (.slice (some ⟨rb + 2, 0, none⟩) 1 1) [y] := ⟨_, _, rfl, by simp, by simp, .inr ⟨rb + 2, 0, rfl, Nat.zero_le _, hY.lt, fun i hi j hj => by
  have hi0 : i = 0 := by simpa using hi
  have hj0 : j = 0 := by omega
  subst hi0; subst hj0
  exact hY.cell 0 rfl⟩⟩
 have HF := Lib.hid (follow_any lo 0 b lb eb _ [y] l W hvb (hlb.below hb) (heb.below hb) hS)
 have HSM : Hid (∀ z ∈ followL b [y] l, Small2 (v, z)) := fun z hz => follow_small hvb h0 h1 hz
 have HB := Lib.hid hb
 have HR := Lib.hid hR
 have HV := Lib.hid hV
 have HH := Lib.hid (hH.below hb)
 have HW := Lib.hid hW
 have HRB := Lib.hid hrb
 have hsW : w.heap.size ≤ W.heap.size := hb.size
 have HST : Hid (strongB b N y l v = (followL b [y] l).any fun z => N v z) := rfl
 have r4 := hR.cell 4 rfl
 have r5 := hR.cell 5 rfl
 have r6 := hR.cell 6 rfl
 have r7 := hR.cell 7 rfl
 rw [hW, hrb] at r4 r5 r6 r7
 clear hvb hlb heb hH h0 h1 hb hR hV hY hS hW hrb
 go_enter Tryz.func86, Tryz.ntmps86
 go_wp2_with fail
 rw [← HW.out]
 try rw [← HRB.out]
 refine Calls.mono HF.out ?_
 rintro e w1 ⟨fv, rfl, hb1, ho1⟩
 have hs1 : SliceK 1 encI W.heap.size w1 fv (followL b [y] l) := SliceK.of_owns (e := 2) encI_len rfl (by rw [flat_encI]; exact ho1)
 have HCF := Lib.hid (ContainsFuncI W.heap.size fv (followL b [y] l) 106 #[.pointer (some ⟨rb, 0, none⟩), .pointer (some ⟨rb + 1, 0, none⟩)] (fun z => N v z) w1 hs1 (fun args w => by kernel_rfl)
  fun w' hb' z hz => strongly1_any rb (rb + 1) fid caps N _ _ _ _ _ _ _ _ v z w' (HR.out.below (hb1.trans (hb'.mono hb1.size))) (HV.out.below (hb1.trans (hb'.mono hb1.size))) eg (HH.out.below (hb1.trans (hb'.mono hb1.size))) (HSM.out z hz))
 have HB1 := Lib.hid (HB.out.trans (hb1.mono hsW))
 obtain ⟨c, hc⟩ : ∃ c, c = (followL b [y] l).any fun z => N v z := ⟨_, rfl⟩
 rw [← hc] at HCF HST
 have hs1w := HB1.out.size
 clear hb1 ho1 hs1 r4 r5 r6 r7 HF hc
 go_wp2_with fail
 refine Calls.mono HCF.out ?_
 rintro e w2 ⟨rfl, hb2⟩
 have HB2 := Lib.hid (HB1.out.trans (hb2.mono hs1w))
 clear hb2 HCF
 go_wp2
 go_ret
 exact ⟨ret_bool HST.out.symm, HB2.out⟩

end Go.Proofs.YtbjbjbnbapeajaaGreatDoor

namespace Go.Proofs.YtbjbjbnbapeajaaGreatDoor
open Go Go.RowKit

set_option maxRecDepth 100000 in
set_option maxHeartbeats 2000000 in
theorem out_any (lo : Nat) (t : Lts) (lv ev : Value) (s : Int) (w : World) (hsmall : t.edges.length ≤ 1073741824) (he : SliceK 3 encE lo w ev t.edges) :
  Calls Tryz.prog 80 #[.agg #[.int .i64 t.states, .int .i64 t.initial, lv, ev], .int .i64 s] w (MadeOut t s w) := by
 obtain ⟨ae, ce, rfl, hen, hec, hrow⟩ := he
 obtain ⟨i0, hi, hz0, hz1, hz2⟩ := info_parts info_edge2
 have HB0 : Hid (Below w.heap.size w (w.alloc (.cells #[.int .i64 t.states, .int .i64 t.initial, lv, .slice ae t.edges.length ce] 29))) := (Below.refl _ _).alloc (Nat.le_refl _) _
 go_enter Tryz.func80, Tryz.ntmps80
 go_wp2_with fail
 go_loopw [5, 11] (fun v i wr => ∃ k : Nat, k ≤ t.edges.length ∧ i = .int .i64 k ∧ Below w.heap.size w wr ∧ wr.ownsRow w.heap.size 73 3 v ((t.edges.take k).filter fun e => e.src == s).length (((t.edges.take k).filter fun e => e.src == s).flatMap encE)) (fun _ i _ => t.edges.length - (intOf i).toNat)
 case atStart => exact ⟨0, Nat.zero_le _, rfl, HB0.out, World.ownsRow_nil _ _ _ _⟩
 case round =>
  obtain ⟨k, hk, rfl, hbl, ho⟩ := hrel
  have HBL := Lib.hid hbl
  have HO := Lib.hid ho
  have hsz := hbl.size
  have hfl : ((t.edges.take k).filter fun e => e.src == s).length ≤ k := Nat.le_trans (List.length_filter_le _ _) (List.length_take_le _ _)
  clear hbl ho
  by_cases hlt : k < t.edges.length
  ·obtain ⟨be, oe, rfl, -, hbe, e1, e2, e3⟩ := (hrow.below HBL.out).edge hlt
   clear hrow
   have HBA : Hid (Below w.heap.size w (wr.alloc (.cells #[.int .i64 t.edges[k].src, .int .i64 t.edges[k].lab, .int .i64 t.edges[k].dst] 73))) := HBL.out.alloc hsz _
   have HOA : Hid ((wr.alloc (.cells #[.int .i64 t.edges[k].src, .int .i64 t.edges[k].lab, .int .i64 t.edges[k].dst] 73)).ownsRow w.heap.size 73 3 u5 ((t.edges.take k).filter fun e => e.src == s).length (((t.edges.take k).filter fun e => e.src == s).flatMap encE)) := HO.out.alloc _
   cases g : (t.edges[k].src == s)
   ·have HL : Hid ((t.edges.take (k + 1)).filter (fun e => e.src == s) = (t.edges.take k).filter fun e => e.src == s) := by
     unfold Hid
     rw [List.take_succ_eq_append_getElem hlt, List.filter_append]
     simp [g]
    go_wp2_with fail
    go_roundw
    case rel => exact ⟨k + 1, by omega, by go_num, HBA.out, by rw [HL.out]; exact HOA.out⟩
    case measure => simp [intOf]; omega
   ·have HL : Hid ((t.edges.take (k + 1)).filter (fun e => e.src == s) = ((t.edges.take k).filter fun e => e.src == s) ++ [t.edges[k]]) := by
     unfold Hid
     rw [List.take_succ_eq_append_getElem hlt, List.filter_append]
     simp [g]
    generalize hfs : (t.edges.take k).filter (fun e => e.src == s) = fs at *
    have HFS := Lib.hid hfs
    clear hfs
    go_wp2_with (at_builtin; refine wpList_append_own _ rfl _ _ 27 rfl w.heap.size 73 i0 (.agg #[.int .i64 0, .int .i64 0, .int .i64 0]) 3 24 Tryz.underlying27 hi hz0 hz1 hz2 rfl (by decide) _ _ _ rfl (HOA.out.alloc _) ⟨wr.heap.size + 1, 0, none⟩ 1 1 (encE t.edges[k]) rfl rfl ?c1 ?c2 ?c3 ?c4 ?c5 ?_)
    case c1 => have := three_new (wr.alloc (.cells #[.int .i64 t.edges[k].src, .int .i64 t.edges[k].lab, .int .i64 t.edges[k].dst] 73)) t.edges[k] 73; simpa using this
    case c2 => intro u hu; simp [encE] at hu; rcases hu with rfl | rfl | rfl <;> rfl
    case c3 => simp [maxLen]; omega
    case c4 => omega
    case c5 => simp; omega
    intro v' w1 ho1 hg1 _
    have HO2 : Hid (w1.ownsRow w.heap.size 73 3 v' (fs ++ [t.edges[k]]).length ((fs ++ [t.edges[k]]).flatMap encE)) := by
     unfold Hid
     rw [List.length_append, List.flatMap_append, List.flatMap_singleton]
     exact ho1
    have HB2 : Hid (Below w.heap.size w w1) := (HBA.out.alloc (by simp; omega) _).grown hg1 (by simp; omega) (fun b e => (HO.out.lt b e).1)
    clear ho1 hg1
    go_wp2_with fail
    go_roundw
    case rel => exact ⟨k + 1, by omega, by go_num, HB2.out, by rw [HL.out]; exact HO2.out⟩
    case measure => simp [intOf]; omega
  ·clear hrow
   go_wp2_with fail
   go_ret
   obtain rfl : k = t.edges.length := by omega
   exact ⟨_, rfl, HBL.out, by unfold outOf; have := HO.out; rw [List.take_length] at this; exact this⟩

end Go.Proofs.YtbjbjbnbapeajaaGreatDoor

namespace Go.Proofs.YtbjbjbnbapeajaaGreatDoor
open Go Go.RowKit

set_option maxRecDepth 100000 in
set_option maxHeartbeats 4000000 in
theorem answered_any (lo fid fid2 : Nat) (caps : Array Value) (a b : Lts) (la ea lb eb : Value) (G : Edge → Bool) (x y : Int) (w : World) (hva : Valid a) (hla : SliceK 1 encS lo w la a.labels) (hea : SliceK 3 encE lo w ea a.edges)
  (eg2 : ∀ args w, (callFunc fid2 args).run Tryz.prog w = .ok (.enter fid2 args) w)
  (hG : ∀ w', Below w.heap.size w w' → ∀ e ∈ outOf a x, Calls Tryz.prog fid2 #[.agg #[.int .i64 a.states, .int .i64 a.initial, la, ea, .int .i64 b.states, .int .i64 b.initial, lb, eb, .func (.func fid) #[] caps], .int .i64 x, .int .i64 y, .string (labAt a e), .int .i64 e.dst] w' fun r w'' => r = .returned (.bool (G e)) ∧ Below w'.heap.size w' w'') :
  Calls Tryz.prog 84 #[.agg #[.int .i64 a.states, .int .i64 a.initial, la, ea, .int .i64 b.states, .int .i64 b.initial, lb, eb, .func (.func fid) #[] caps], .int .i64 x, .int .i64 y, .func (.func fid2) #[] #[]] w fun e w' => e = .returned (.bool ((outOf a x).all G)) ∧ Below w.heap.size w w' := by
 obtain ⟨al, cl, rfl, hln, hlc, hlrow⟩ := hla
 obtain ⟨LN, hLN⟩ : ∃ LN, LN = a.labels.length := ⟨_, rfl⟩
 rw [← hLN] at hG hln
 rw [← hLN]
 have HLN := Lib.hid hLN
 obtain ⟨rb, hrb⟩ : ∃ rb, rb = w.heap.size := ⟨_, rfl⟩
 obtain ⟨W, hW⟩ : ∃ W, W = w.alloc (.cells #[.int .i64 a.states, .int .i64 a.initial, .slice al LN cl, ea, .int .i64 b.states, .int .i64 b.initial, lb, eb, .func (.func fid) #[] caps] 95) := ⟨_, rfl⟩
 have hb : Below w.heap.size w W := by rw [hW]; exact (Below.refl _ _).alloc (Nat.le_refl _) _
 have hR : Blk W rb [.int .i64 a.states, .int .i64 a.initial, .slice al LN cl, ea, .int .i64 b.states, .int .i64 b.initial, lb, eb, .func (.func fid) #[] caps] 95 := by rw [hW, hrb]; exact Blk.new w _ _
 have HOU := Lib.hid (out_any lo a (.slice al LN cl) ea x W (by have := hva.most; omega) (hea.below hb))
 have HV := Lib.hid hva
 have HB := Lib.hid hb
 have HR := Lib.hid hR
 have HG := Lib.hid hG
 have HLR := Lib.hid (hlrow.below hb)
 have HW := Lib.hid hW
 have HRB := Lib.hid hrb
 have hsW : w.heap.size ≤ W.heap.size := hb.size
 have r0 := hR.cell 0 rfl
 have r1 := hR.cell 1 rfl
 have r2 := hR.cell 2 rfl
 have r3 := hR.cell 3 rfl
 rw [hW, hrb] at r0 r1 r2 r3
 clear hva hea hG hb hR hW hrb hlrow hLN
 go_enter Tryz.func84, Tryz.ntmps84
 go_wp2_with fail
 rw [← HW.out]
 try rw [← HRB.out]
 refine Calls.mono HOU.out ?_
 rintro e w1 ⟨ov, rfl, hb1, ho1⟩
 have HB1 := Lib.hid hb1
 obtain ⟨O, hO⟩ : ∃ O, O = outOf a x := ⟨_, rfl⟩
 rw [← hO] at ho1
 have HOO := Lib.hid hO
 have HO1 := Lib.hid ho1
 obtain ⟨oa, oc, rfl, -, -⟩ := owns_slice ho1
 have hs1 : W.heap.size ≤ w1.heap.size := hb1.size
 obtain ⟨OL, hOL⟩ : ∃ OL, OL = O.length := ⟨_, rfl⟩
 rw [← hOL] at HO1
 rw [← hOL]
 have HOL := Lib.hid hOL
 have hol : OL ≤ 1048576 := by
  have h1 : O.length ≤ a.edges.length := by rw [hO]; exact List.length_filter_le _ _
  have := HV.out.most
  omega
 have HBW : Hid (Below w.heap.size w w1) := HB.out.trans (hb1.mono hsW)
 clear hb1 ho1 hO hOL r0 r1 r2 r3 HOU
 go_wp2
 go_loopw [16] (fun v16 wr => ∃ k : Nat, k ≤ OL ∧ v16 = .int .i64 k ∧ Below w1.heap.size w1 wr ∧ ∀ e ∈ O.take k, G e = true) (fun v16 _ => OL - (intOf v16).toNat)
 case atStart => exact ⟨0, Nat.zero_le _, rfl, Below.refl _ _, fun e he => by simp at he⟩
 case round =>
  obtain ⟨k, hk, rfl, hbl, hall⟩ := hrel
  obtain ⟨wC, rfl⟩ : ∃ wC : World, wC = wr := ⟨_, rfl⟩
  have HBL := Lib.hid hbl
  have HALL := Lib.hid hall
  have hszC := hbl.size
  clear hbl hall
  by_cases hlt : k < OL
  ·have hkO : k < O.length := by rw [← HOL.out]; exact hlt
   have hoC := owns_below HO1.out HBL.out
   obtain ⟨ob, e1, hobl⟩ : ∃ ob, oa = some ⟨ob, 0, none⟩ ∧ ob < wC.heap.size := by
    rcases hoC.2 with ⟨h, h0⟩ | ⟨g, c, u, h, -⟩
    ·omega
    ·simp only [Value.slice.injEq, true_and] at h
     obtain ⟨rfl, rfl⟩ := h
     exact ⟨g, rfl, (hoC.lt g rfl).2⟩
   subst e1
   have hrow : RowK 3 encE W.heap.size wC (some ⟨ob, 0, none⟩) O := by
    obtain ⟨a', c', he, -, -, hr⟩ := SliceK.of_owns (enc := encE) encE_len HOL.out hoC
    simp only [Value.slice.injEq] at he
    rw [he.1]
    exact hr
   obtain ⟨ob', of', hq, -, -, e1, e2, e3⟩ := hrow.edge hkO
   simp only [Option.some.injEq, Addr.mk.injEq, and_true] at hq
   obtain ⟨rfl, rfl⟩ := hq
   rw [Nat.zero_add] at e1 e2 e3
   obtain ⟨q, hq⟩ : ∃ q, q = O[k] := ⟨_, rfl⟩
   rw [← hq] at e1 e2 e3
   have hqo : q ∈ outOf a x := by rw [← HOO.out, hq]; exact List.getElem_mem hkO
   have hqm : q ∈ a.edges := (List.mem_filter.1 hqo).1
   obtain ⟨qi, hqi, hqe⟩ := List.mem_iff_getElem.1 hqm
   have hok := HV.out.edge qi hqi
   rw [hqe] at hok
   obtain ⟨el, hel⟩ : ∃ el : Nat, (el : Int) = q.lab := ⟨q.lab.toNat, by have := hok.l0; omega⟩
   have helL : el < a.labels.length := by have := hok.l1; omega
   have helN : el < LN := by rw [HLN.out]; exact helL
   obtain ⟨bl, ol, rfl, -, hbl0, hlc1⟩ := HLR.out.one helL
   obtain ⟨l, hl⟩ : ∃ l, l = a.labels[el] := ⟨_, rfl⟩
   simp only [encS, List.getElem?_cons_zero] at hlc1
   rw [← hl] at hlc1
   have hlab : labAt a q = l := by
    unfold labAt
    rw [show q.lab.toNat = el from by omega, List.getD_eq_getElem?_getD, List.getElem?_eq_getElem helL, hl]
    rfl
   obtain ⟨es, hes⟩ : ∃ es, es = q.src := ⟨_, rfl⟩
   obtain ⟨ed, hed⟩ : ∃ ed, ed = q.dst := ⟨_, rfl⟩
   rw [← hes] at e1
   rw [← hel] at e2
   rw [← hed] at e3
   obtain ⟨W2, hW2⟩ : ∃ W2, W2 = wC.alloc (.cells #[.int .i64 es, .int .i64 el, .int .i64 ed] 73) := ⟨_, rfl⟩
   obtain ⟨eb2, heb2⟩ : ∃ eb2, eb2 = wC.heap.size := ⟨_, rfl⟩
   have hb2 : Below wC.heap.size wC W2 := by rw [hW2]; exact (Below.refl _ _).alloc (Nat.le_refl _) _
   have hE : Blk W2 eb2 [.int .i64 es, .int .i64 el, .int .i64 ed] 73 := by rw [hW2, heb2]; exact Blk.new wC _ _
   have h02 : Below W.heap.size W W2 := (HB1.out.trans ((HBL.out.trans (hb2.mono hszC)).mono hs1))
   have hR2 := HR.out.below h02
   have hgc : ∀ w', Below w.heap.size w w' → Calls Tryz.prog fid2 #[.agg #[.int .i64 a.states, .int .i64 a.initial, .slice (some ⟨bl, ol, none⟩) LN cl, ea, .int .i64 b.states, .int .i64 b.initial, lb, eb, .func (.func fid) #[] caps], .int .i64 x, .int .i64 y, .string l, .int .i64 ed] w' fun r w'' => r = .returned (.bool (G q)) ∧ Below w'.heap.size w' w'' := by
    intro w' hbw'
    have := HG.out w' hbw' q hqo
    rw [hlab, ← hed] at this
    exact this
   have HGC := Lib.hid hgc
   have H2 := Lib.hid (HBL.out.trans (hb2.mono hszC))
   have hs2 : w1.heap.size ≤ W2.heap.size := H2.out.size
   have HQ := Lib.hid hq
   have HW2 := Lib.hid hW2
   have HEB2 := Lib.hid heb2
   have heli : (el : Int) < (LN : Int) := by omega
   have hki : (k : Int) < (OL : Int) := by omega
   obtain ⟨g, hg⟩ : ∃ g, g = G q := ⟨_, rfl⟩
   rw [← hg] at HGC
   have HGG := Lib.hid hg
   have l0 := later_cell hR2.lt (hR2.cell 0 rfl)
   have l1 := later_cell hR2.lt (hR2.cell 1 rfl)
   have l2 := later_cell hR2.lt (hR2.cell 2 rfl)
   have l3 := later_cell hR2.lt (hR2.cell 3 rfl)
   have l4 := later_cell hR2.lt (hR2.cell 4 rfl)
   have l5 := later_cell hR2.lt (hR2.cell 5 rfl)
   have l6 := later_cell hR2.lt (hR2.cell 6 rfl)
   have l7 := later_cell hR2.lt (hR2.cell 7 rfl)
   have l8 := later_cell hR2.lt (hR2.cell 8 rfl)
   have k1 := later_cell hE.lt (hE.cell 1 rfl)
   have k2 := later_cell hE.lt (hE.cell 2 rfl)
   have k3 := later_cell (Nat.lt_of_lt_of_le hbl0 h02.size) (keeps h02 hbl0 hlc1)
   clear hrow hq hqo hqm hqe hqi hok hel helL hl hlab hes hed hW2 heb2 hb2 hE h02 hR2 hgc hg hlc1 hoC
   go_wp2
   rw [← HW2.out]
   try rw [← HEB2.out]
   refine wp_region_later_tail 13 (by kernel_rfl) (by kernel_rfl) ?_
   simp only [List.take_succ_cons, List.take_zero, List.drop_succ_cons, List.drop_zero]
   repeat (go_big_quiet_step ((fail)))
   refine wpQuiet_nil ?_
   intro _ hw9
   obtain ⟨nl, hw8⟩ := hw9
   subst hw8
   have HN : Hid (Below w1.heap.size w1 nl.w) := H2.out.trans (nl.h.mono hs2)
   have HCC := Lib.hid (HGC.out nl.w (HBW.out.trans (HN.out.mono HBW.out.size)))
   clear l0 l1 l2 l3 l4 l5 l6 l7 l8 k1 k2 k3
   go_wp2_with fail
   refine Calls.mono HCC.out ?_
   rintro e w5 ⟨rfl, hb5⟩
   have HB5 := Lib.hid (HN.out.trans (hb5.mono HN.out.size))
   clear hb5 HCC
   cases g
   ·have HF : Hid ((outOf a x).all G = false) := by
     unfold Hid
     rw [← HOO.out]
     exact List.all_eq_false.2 ⟨O[k], List.getElem_mem hkO, by rw [← HQ.out, ← HGG.out]; simp⟩
    go_wp2
    go_ret
    exact ⟨ret_bool HF.out.symm, HBW.out.trans (HB5.out.mono HBW.out.size)⟩
   ·go_wp2
    go_roundw
    case rel =>
     refine ⟨k + 1, by omega, by go_num, HB5.out, fun e he => ?_⟩
     rw [List.take_succ_eq_append_getElem hkO, List.mem_append, List.mem_singleton] at he
     rcases he with he | rfl
     ·exact HALL.out e he
     ·rw [← HQ.out, ← HGG.out]
    case measure => simp [intOf]; omega
  ·have HF : Hid ((outOf a x).all G = true) := by
    unfold Hid
    rw [← HOO.out]
    exact List.all_eq_true.2 fun e he => HALL.out e (by rw [List.take_of_length_le (by have := HOL.out; omega)]; exact he)
   go_wp2
   go_ret
   exact ⟨ret_bool HF.out.symm, HBW.out.trans (HBL.out.mono HBW.out.size)⟩

end Go.Proofs.YtbjbjbnbapeajaaGreatDoor

namespace Go.Proofs.YtbjbjbnbapeajaaGreatDoor
open Go Go.RowKit

set_option maxRecDepth 100000 in
theorem has1_any (nb mb : Nat) (ps : List (Int × Int)) (x y : Int) (w : World) (hn : Blk w nb [.map (some mb)] 64) (hp : PairMap w mb ps) (hs : Small2 (x, y)) :
  Calls Tryz.prog 63 #[.int .i64 x, .int .i64 y, .pointer (some ⟨nb, 0, none⟩)] w fun e w' => e = .returned (.bool (setOf ps x y)) ∧ Below w.heap.size w w' := by
 have hl := hp.look hs
 unfold key2 at hl
 have n0 := hn.cell 0 rfl
 have HS : Hid (setOf ps x y = decide ((x, y) ∈ ps)) := rfl
 obtain ⟨b, hb⟩ : ∃ b, b = decide ((x, y) ∈ ps) := ⟨_, rfl⟩
 rw [← hb] at hl HS
 clear hn hp hs hb
 go_enter Tryz.func63, Tryz.ntmps63
 go_wp2
 go_ret
 exact ⟨ret_bool HS.out.symm, Below.refl _ _⟩
theorem hasFn_of {nb mb : Nat} {ps : List (Int × Int)} {w : World} (hn : Blk w nb [.map (some mb)] 64) (hp : PairMap w mb ps) : HasFn 63 #[.pointer (some ⟨nb, 0, none⟩)] (setOf ps) w :=
 fun w' hb x y hs => has1_any nb mb ps x y w' (hn.below hb) (hp.below hb) hs

/-- The two systems, the map under its name, and its pairs. -/
structure SimW (ab bb nb mb : Nat) (a b : Lts) (la ea lb eb : Value) (ps : List (Int × Int)) (w0 w : World) : Prop where
 bel : Below w0.heap.size w0 w
 low : w0.heap.size ≤ mb
 lown : w0.heap.size ≤ nb
 one : Blk w ab [.int .i64 a.states, .int .i64 a.initial, la, ea] 29
 two : Blk w bb [.int .i64 b.states, .int .i64 b.initial, lb, eb] 29
 name : Blk w nb [.map (some mb)] 64
 map : PairMap w mb ps
theorem SimW.below {ab bb nb mb : Nat} {a b : Lts} {la ea lb eb : Value} {ps : List (Int × Int)} {w0 w w' : World} (h : SimW ab bb nb mb a b la ea lb eb ps w0 w) (hb : Below w.heap.size w w') : SimW ab bb nb mb a b la ea lb eb ps w0 w' :=
 ⟨h.bel.trans (hb.mono h.bel.size), h.low, h.lown, h.one.below hb, h.two.below hb, h.name.below hb, h.map.below hb⟩
theorem SimW.push {ab bb nb mb : Nat} {a b : Lts} {la ea lb eb : Value} {ps : List (Int × Int)} {w0 w : World} (h : SimW ab bb nb mb a b la ea lb eb ps w0 w) {x y : Int} (hq : Small2 (x, y)) (hn : (x, y) ∉ ps) (hr : ps.length ≤ 1000000) :
  ∃ w', (Instr.mapUpdate 64 (.map (some mb)) (.agg #[.int .i64 x, .int .i64 y]) (.bool true)).run Tryz.prog w = .ok () w' ∧ SimW ab bb nb mb a b la ea lb eb (ps ++ [(x, y)]) w0 w' := by
 obtain ⟨w', h1, h2, h3⟩ := h.map.push hq hn hr
 exact ⟨w', h1, h.bel.grown h3 h.bel.size (fun k e => by cases e; exact h.low), h.low, h.lown, blk_grown h.one h3 (blk_set_ne h.one h.map.map), blk_grown h.two h3 (blk_set_ne h.two h.map.map), blk_grown h.name h3 (blk_set_ne h.name h.map.map), h2⟩
theorem SimW.kept {ab bb nb mb : Nat} {a b : Lts} {la ea lb eb : Value} {ps : List (Int × Int)} {w0 w w' : World} (h : SimW ab bb nb mb a b la ea lb eb ps w0 w) {k : Nat} (hg : w.grownBy w' (some k)) (hk : w0.heap.size ≤ k) (h1 : ab ≠ k) (h2 : bb ≠ k) (h3 : nb ≠ k) (h4 : mb ≠ k) : SimW ab bb nb mb a b la ea lb eb ps w0 w' :=
 ⟨h.bel.grown hg h.bel.size (fun j e => by cases e; exact hk), h.low, h.lown, blk_grown h.one hg h1, blk_grown h.two hg h2, blk_grown h.name hg h3, h.map.kept hg (by simpa using h4)⟩
theorem SimW.iter {ab bb nb mb : Nat} {a b : Lts} {la ea lb eb : Value} {ps : List (Int × Int)} {w0 w w' : World} (h : SimW ab bb nb mb a b la ea lb eb ps w0 w) {r m n : Nat} {seen : Array Nat} (hi : IterG w r m n seen) (hg : w.grownBy w' (some r)) (hr : w0.heap.size ≤ r) : SimW ab bb nb mb a b la ea lb eb ps w0 w' :=
 h.kept hg hr (blk_iter_ne h.one hi) (blk_iter_ne h.two hi) (blk_iter_ne h.name hi) (set_iter_ne h.map.map hi)
/-- Another map takes the name. -/
theorem SimW.turn {ab bb nb mb nm : Nat} {a b : Lts} {la ea lb eb : Value} {ps qs : List (Int × Int)} {w0 w : World} (h : SimW ab bb nb mb a b la ea lb eb ps w0 w) (hp : PairMap w nm qs) (hl : w0.heap.size ≤ nm) : SimW ab bb nb nm a b la ea lb eb qs w0 (w.setCell ⟨nb, 0, none⟩ (.map (some nm))) := by
 have hg := grown_setCell w ⟨nb, 0, none⟩ (.map (some nm))
 exact ⟨h.bel.setCell h.lown _, hl, h.lown, blk_grown h.one hg (blk_type_ne h.one h.name (by decide)), blk_grown h.two hg (blk_type_ne h.two h.name (by decide)), h.name.set 0 _, hp.kept hg (by simpa using (blk_set_ne h.name hp.map).symm)⟩
set_option maxRecDepth 100000 in
theorem PairMap.pushLit {w : World} {b : Nat} {ps : List (Int × Int)} (h : PairMap w b ps) {x y : Int} (hq : Small2 (x, y)) (hn : (x, y) ∉ ps) (hroom : ps.length ≤ 1000000) :
  ∃ w', (Instr.mapUpdate 64 (.map (some b)) (.agg #[.int .i64 x, .int .i64 y]) (.bool true)).run Tryz.prog w = .ok () w' ∧ PairMap w' b (ps ++ [(x, y)]) ∧ w.grownBy w' (some b) := by
 have h2 := h.push hq hn hroom
 unfold key2 at h2
 exact h2
set_option maxRecDepth 100000 in
theorem PairMap.lookLit {w : World} {b : Nat} {ps : List (Int × Int)} (h : PairMap w b ps) {x y : Int} (hq : Small2 (x, y)) :
  (Instr.lookup 64 (.map (some b)) (.agg #[.int .i64 x, .int .i64 y]) false).run Tryz.prog w = .ok (.bool (decide ((x, y) ∈ ps))) w := by
 have h2 := h.look hq
 unfold key2 at h2
 exact h2
/-- The first round in which the pair is missing. -/
def MissOk (q : Int × Int) (ps : List (Int × Int)) (m : Int) : Prop := (m = -1 ∧ q ∈ ps) ∨ (0 ≤ m ∧ q ∉ ps)
theorem MissOk.iff {q : Int × Int} {ps : List (Int × Int)} {m : Int} (h : MissOk q ps m) : m < 0 ↔ q ∈ ps := by
 rcases h with ⟨rfl, h⟩ | ⟨h0, h⟩
 ·exact ⟨fun _ => h, fun _ => by decide⟩
 ·exact ⟨fun h1 => by omega, fun h1 => absurd h1 h⟩
theorem MissOk.next {q : Int × Int} {A : PairAsk} {ps qs : List (Int × Int)} {m : Int} (h : MissOk q ps m) (hk : KeptA A ps qs) : m = -1 ∨ (0 ≤ m ∧ q ∉ qs) := by
 rcases h with ⟨rfl, -⟩ | ⟨h0, h⟩
 ·exact .inl rfl
 ·exact .inr ⟨h0, fun hc => h ((hk q).1 hc).1⟩
theorem pair_fresh {P x y : Nat} : ((x : Int), (y : Int)) ∉ pall P x ++ prow x y := by
 rw [List.mem_append, mem_pall, mem_prow]
 rintro (⟨⟨-, h⟩, -⟩ | ⟨-, -, h⟩)
 ·exact absurd h (Int.lt_irrefl _)
 ·exact absurd h (Int.lt_irrefl _)
theorem small_nat {x y : Nat} (hx : x < 40) (hy : y < 40) : Small2 ((x : Int), (y : Int)) := ⟨⟨by show (0 : Int) ≤ (x : Int); omega, by show (x : Int) < 40; omega⟩, by show (0 : Int) ≤ (y : Int); omega, by show (y : Int) < 40; omega⟩
theorem prow_len (x y : Nat) : (prow x y).length = y := by simp [prow]
theorem fill_len {P x y S : Nat} (hS : S ≤ 40) (hP : P ≤ 40) (hx : x < S) (hy : y < P) : (pall P x ++ prow x y).length ≤ 1000000 := by
 rw [List.length_append, pall_len, prow_len]
 have h := Nat.mul_le_mul (show x ≤ 40 by omega) hP
 omega

end Go.Proofs.YtbjbjbnbapeajaaGreatDoor
