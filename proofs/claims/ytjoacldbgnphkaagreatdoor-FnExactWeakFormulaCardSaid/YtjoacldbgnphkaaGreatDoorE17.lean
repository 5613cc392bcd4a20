/-
  The program's Clone at nodes.
  Rows of rows, filled and grown; appending one row to another in a region. Plain and memory notions for refine.
  The sets of codes are added to the keys: what stands between the rounds.
  The reference's l14Next: the classes of the next depth.
  What the reference says of a number in a list, and of two equal lists.
  What the reference's CanStay returns.
  The reference's l14Levels: the classes at the depths up to the one behind which nothing changes.
-/
import Derived.Test.YtjoacldbgnphkaaGreatDoorE16
import Derived.Test.YtjoacldbgnphkaaGreatDoorE14
import Derived.Test.YtjoacldbgnphkaaGreatDoorE9
import Derived.Deep.AppendLies
import Derived.Test.YtjoacldbgnphkaaGreatDoorE13
import Derived.Test.YtjoacldbgnphkaaGreatDoorE3
import Derived.StillTailTactics
import Derived.Deep.RegionHeld3
namespace Go.Proofs.YtjoacldbgnphkaaGreatDoor
open Go Go.RowKit


set_option maxRecDepth 100000 in
set_option maxHeartbeats 2000000 in
theorem CloneN_any (v : Value) (f : List Nd) (w : World) (hv : FormO 0 w v f) (hf : f ≠ []) (h2 : f.length ≤ 200) :
  Calls Tryz.prog 50 #[v] w fun e w' => ∃ v', e = .returned v' ∧ FormO w.heap.size w' v' f ∧ Below w.heap.size w w' := by
 obtain ⟨bq, oq, cq, rfl, -, hqb, hqc⟩ := form_cells hv.at hf
 obtain ⟨i4, hi4, hz40, hz41, hz42⟩ := info_parts info_nodeG
 obtain ⟨FL, hFL⟩ : ∃ FL, FL = f.length := ⟨_, rfl⟩
 have hFL1 : 0 < FL := by rw [hFL]; exact List.length_pos_iff.2 hf
 have HFL4 : Hid ((f.flatMap encN).length = FL * 4) := by unfold Hid; rw [flatN_len, ← hFL]
 rw [← hFL] at h2 ⊢
 obtain ⟨WE, hWE⟩ : ∃ WE, WE = w.alloc (.cells #[] 55) := ⟨_, rfl⟩
 have hal : Below w.heap.size w WE := by rw [hWE]; exact (Below.refl _ _).alloc (Nat.le_refl _) _
 have HOE : Hid (WE.ownsRow w.heap.size 55 4 (.slice (some ⟨w.heap.size, 0, none⟩) 0 0) 0 []) := by
  have h := World.ownsRow_lit (base := w.heap.size) (size := 4) w #[] (e := 55) 0 (Nat.le_refl _) (by simp [maxLen]) rfl
  rw [← hWE] at h
  exact h
 have HQC := Lib.hid (news_below hqb hqc hal)
 have HAL := Lib.hid hal
 have hsE := hal.size
 have HWE := Lib.hid hWE
 have HFL := Lib.hid hFL
 have hEQ := eqNilN (some ⟨bq, oq, none⟩) FL cq w
 clear hWE hal hqc hv hf hFL
 go_enter Tryz.func50, Tryz.ntmps50
 go_wp2_with (at_builtin; rw [← HWE.out]; refine wpList_append_lies _ rfl _ _ 27 rfl w.heap.size 55 i4 _ 4 40 Tryz.underlying27 hi4 hz40 hz41 hz42 rfl (by decide) _ _ _ rfl HOE.out ⟨bq, oq, none⟩ FL cq (f.flatMap encN) rfl ?d1 HQC.out (flatN_one _) ?d3 ?d4 ?d5 ?d6 _ rfl ?_)
 case d1 => exact HFL4.out
 case d3 => exact hFL1
 case d4 => simp [maxLen]; omega
 case d5 => omega
 case d6 => exact hsE
 intro g9 c9 w9 ho9 hg9 hat9 hlt9
 have HB9 : Hid (Below w.heap.size w w9) := HAL.out.grown hg9 hsE (fun b e => (HOE.out.lt b e).1)
 have HO9 : Hid (FormO w.heap.size w9 (.slice (some ⟨g9, 0, none⟩) (0 + FL) c9) f) := by
  unfold Hid FormO
  rw [← HFL.out]
  simpa using ho9
 clear ho9 hg9 hat9 hlt9
 go_wp2
 go_ret
 exact ⟨_, rfl, by simpa using HO9.out, HB9.out⟩

end Go.Proofs.YtjoacldbgnphkaaGreatDoor

namespace Go.Proofs.YtjoacldbgnphkaaGreatDoor
open Go Go.RowKit


theorem run_append_zeroR {P : Program} {w : World} (base : Nat) (t ty e : TypeId) (i : TypeInfo) (size : Nat) (ht : P.underlying t = some (.slice e)) (hi : P.info? e = some i) (v : Value) (n : Nat) (xs : List Value) (hown : w.ownsRow base e size v n xs) (ad : Option Addr) (c : Nat) :
  (Builtin.append_ #[t, t] ty #[v, .slice ad 0 c]).run P w = .ok v w := by
 rcases hown.2 with ⟨rfl, rfl⟩ | ⟨g, cap, cur, rfl, _, _, hnc, _⟩
 ·cases ad <;> simp [Builtin.append_, run_underlying ht, sizeOf, typeInfo, hi, Builtin.lenOf, Builtin.firstCells, loadCells, loadCellsFrom]
 ·cases ad <;> simp [Builtin.append_, run_underlying ht, sizeOf, typeInfo, hi, Builtin.lenOf, Builtin.firstCells, hnc, loadCells, loadCellsFrom, storeCells]
/-- One own row is appended to another one, in a region that draws its order. -/
theorem step_append_row (w : World) {P : Program} {ops : Array Oper} {o : Oper} {a : Act} {K : Act → World → Prop} {Q : Exit → Act → World → Prop} {F : Prop} (hgd : o.guard = none) (s x : Operand) (t : TypeId)
  (ho : o.op = .call { callee := .builtin .append, args := #[s, x], argTypes := #[t, t] })
  (base lo2 : Nat) (e : TypeId) (i : TypeInfo) (z : Value) (bytes : Nat) (ht : P.underlying t = some (.slice e)) (hi : P.info? e = some i) (hz : i.zero = some z)
  (hsize : i.size = 1) (hby : i.bytes = bytes) (hzs : z.cells.size = 1)
  (v : Value) (n : Nat) (xs : List Value) (hs : a.eval s = v) (hown : w.ownsRow base e 1 v n xs)
  (u : Value) (m : Nat) (us : List Value) (hx : a.eval x = u) (hsrc : w.ownsRow lo2 e 1 u m us) (h1 : ∀ y ∈ us, y.oneCell' = true)
  (h63 : n + m ≤ maxLen) (hbytes : (n + m) * bytes ≤ 140737488355328) (hbase : base ≤ w.heap.size)
  (h : ∀ v' w', w'.ownsRow base e 1 v' (n + m) (xs ++ us) → w.grownBy w' v.ownBlock → (∀ b, v'.ownBlock = some b → v.ownBlock = some b ∨ w.heap.size ≤ b) → K (a.put o.dst v') w') :
  if Region.wanted o (yielded ops a.tmps) = true then Oper.wp P o a w K Q else F := by
 by_cases hm : m = 0
 ·subst hm
  have hus : us = [] := List.eq_nil_of_length_eq_zero (by have := hsrc.1; omega)
  subst hus
  obtain ⟨ad, c, rfl, -, -⟩ := owns_slice hsrc
  have hw : Region.wanted o (yielded ops a.tmps) = true := by simp [Region.wanted, hgd]
  rw [if_pos hw]
  have hrun := run_append_zeroR (P := P) (w := w) base t o.type e i 1 ht hi v n xs hown ad c
  have hk := h v w (by simpa using hown) (grown_refl _ _) (fun b e => .inl e)
  unfold Oper.wp
  simp [execOp, ho, resolve, invoke, builtin, hs, hx, hrun, Result.andThen, Oper.upon, hk]
 ·rcases hsrc.2 with ⟨-, h0⟩ | ⟨g, cap, cur, rfl, -⟩
  ·exact absurd h0 hm
  ·refine step_append_lies w hgd s x t ho base e i z 1 bytes ht hi hz hsize hby hzs (by decide) v n xs hs hown ⟨g, 0, none⟩ m cap us hx (by have := hsrc.1; omega) (fun j y hy => ?_) h1 (by omega) h63 hbytes hbase w.heap.size rfl fun g' cap' w' ho' hg' hf' _ => h _ _ ho' hg' (fun b e => ?_)
   ·have hj : j < m := by
     have h2 := (List.getElem?_eq_some_iff.1 hy).1
     have := hsrc.1
     omega
    rw [Addr.add_lit, Nat.zero_add, hsrc.cellAt j (by omega)]
    exact hy
   ·simp only [Value.ownBlock, Option.some.injEq] at e
    subst e
    exact hf'.imp id fun h => by omega
/-- Rows that are all empty. -/
theorem OwnRows.nils {eo ei lo : Nat} {w : World} {v : Value} {n : Nat} (h : w.ownsRow lo eo 1 v n (List.replicate n (.slice none 0 0))) : OwnRows eo ei lo w v (List.replicate n (.slice none 0 0)) (List.replicate n []) := by
 refine ⟨by simp, by simpa using h, fun i hi hi' => ?_, fun i j hi hj _ => .inl ?_⟩
 ·simp only [List.getElem_replicate]
  exact World.ownsRow_nil _ _ _ _
 ·simp only [List.getElem_replicate]
  rfl
/-- A place gets a row of its own. -/
theorem OwnRows.lay {eo ei lo : Nat} {w w1 w2 : World} {v v' : Value} {vs : List Value} {xss : List (List Value)} {ys : List Value} (he : eo ≠ ei) (h : OwnRows eo ei lo w v vs xss) (j : Nat) (hj : j < vs.length)
  (hb1 : Below w.heap.size w w1) (ho : w1.ownsRow w.heap.size ei 1 v' ys.length ys) (hlo : lo ≤ w.heap.size)
  (hg2 : w1.grownBy w2 v.ownBlock) (hv : w2.ownsRow lo eo 1 v vs.length (vs.set j v')) : OwnRows eo ei lo w2 v (vs.set j v') (xss.set j ys) :=
 OwnRows.grow he h j hj (grown_below hb1 _) (own_lower ho hlo) (fun b e => .inr (ho.lt b e).1) hg2 hv
/-- The codes of the first edges from a state. -/
def rawK (t : Lts) (p : List Int) (k i : Nat) : List Int := ((t.edges.take k).filter fun e => e.src == (i : Int)).map fun e => e.lab * t.states + p.getD e.dst.toNat 0
theorem rawK_zero (t : Lts) (p : List Int) (i : Nat) : rawK t p 0 i = [] := by simp [rawK]
theorem rawK_all (t : Lts) (p : List Int) (i : Nat) : rawK t p t.edges.length i = rawG t p i := by
 unfold rawK rawG outOf
 rw [List.take_length]
theorem rawK_hit {t : Lts} {p : List Int} {k i : Nat} (hk : k < t.edges.length) (h : t.edges[k].src = (i : Int)) : rawK t p (k + 1) i = rawK t p k i ++ [t.edges[k].lab * t.states + p.getD t.edges[k].dst.toNat 0] := by
 unfold rawK
 rw [List.take_succ_eq_append_getElem hk, List.filter_append, List.map_append]
 simp [h]
theorem rawK_miss {t : Lts} {p : List Int} {k i : Nat} (hk : k < t.edges.length) (h : t.edges[k].src ≠ (i : Int)) : rawK t p (k + 1) i = rawK t p k i := by
 unfold rawK
 rw [List.take_succ_eq_append_getElem hk, List.filter_append]
 simp [h]
theorem rawK_len (t : Lts) (p : List Int) (k i : Nat) : (rawK t p k i).length ≤ k := by
 unfold rawK
 rw [List.length_map]
 exact Nat.le_trans (List.length_filter_le _ _) (by rw [List.length_take]; omega)
def rowsK (t : Lts) (p : List Int) (S k : Nat) : List (List Value) := (List.range S).map fun i => (rawK t p k i).map (Value.int .i64)
theorem rowsK_len (t : Lts) (p : List Int) (S k : Nat) : (rowsK t p S k).length = S := by simp [rowsK]
theorem rowsK_get {t : Lts} {p : List Int} {S k i : Nat} (h : i < (rowsK t p S k).length) : (rowsK t p S k)[i] = (rawK t p k i).map (Value.int .i64) := by simp [rowsK]
theorem rowsK_zero (t : Lts) (p : List Int) (S : Nat) : rowsK t p S 0 = List.replicate S [] := by
 refine List.ext_getElem (by simp [rowsK]) fun i h1 _ => ?_
 rw [rowsK_get h1, rawK_zero, List.getElem_replicate]
 rfl
theorem rowsK_set {t : Lts} {p : List Int} {S k i : Nat} (hk : k < t.edges.length) (_hi : i < S) (h : t.edges[k].src = (i : Int)) : (rowsK t p S k).set i ((rawK t p k i).map (Value.int .i64) ++ [.int .i64 (t.edges[k].lab * t.states + p.getD t.edges[k].dst.toNat 0)]) = rowsK t p S (k + 1) := by
 refine List.ext_getElem (by simp [rowsK]) fun j h1 h2 => ?_
 rw [rowsK_get h2]
 by_cases e : i = j
 ·subst e
  rw [List.getElem_set_self, rawK_hit hk h, List.map_append]
  rfl
 ·rw [List.getElem_set_ne e, rowsK_get, rawK_miss hk (fun e2 => e (by omega))]
/-- The keys while they are made: the blocks alone. -/
def keys1 (p : List Int) (S k : Nat) : List (List Value) := (p.take k).map (fun b => [Value.int .i64 b]) ++ List.replicate (S - k) []
theorem keys1_zero (p : List Int) (S : Nat) : keys1 p S 0 = List.replicate S [] := by simp [keys1]
theorem keys1_set {p : List Int} {S k : Nat} (hp : p.length = S) (hk : k < S) : (keys1 p S k).set k [Value.int .i64 (p.getD k 0)] = keys1 p S (k + 1) := by
 unfold keys1
 have hl : ((p.take k).map fun b => [Value.int .i64 b]).length = k := by simp; omega
 have hkp : k < p.length := by omega
 rw [show S - k = (S - (k + 1)) + 1 from by omega, List.replicate_succ, List.set_append_right _ _ (by omega), hl, Nat.sub_self, List.set_cons_zero, List.take_succ_eq_append_getElem hkp, List.map_append, List.append_assoc, List.getD_eq_getElem?_getD, List.getElem?_eq_getElem hkp]
 rfl
theorem keys1_all {p : List Int} {S : Nat} (hp : p.length = S) : keys1 p S S = p.map fun b => [Value.int .i64 b] := by
 unfold keys1
 rw [Nat.sub_self, List.take_of_length_le (by omega)]
 simp
/-- The keys while the codes are added. -/
def keys3 (t : Lts) (p : List Int) (S i : Nat) : List (List Int) := (List.range S).map fun j => if j < i then p.getD j 0 :: sgT t p j else [p.getD j 0]
theorem keys3_len (t : Lts) (p : List Int) (S i : Nat) : (keys3 t p S i).length = S := by simp [keys3]
theorem keys3_get {t : Lts} {p : List Int} {S i j : Nat} (h : j < (keys3 t p S i).length) : (keys3 t p S i)[j] = if j < i then p.getD j 0 :: sgT t p j else [p.getD j 0] := by simp [keys3]
theorem keys3_zero {t : Lts} {p : List Int} {S : Nat} (hp : p.length = S) : (keys3 t p S 0).map (List.map (Value.int .i64)) = p.map fun b => [Value.int .i64 b] := by
 refine List.ext_getElem (by simp [keys3, hp]) fun j h1 h2 => ?_
 have hj : j < p.length := by simpa using h2
 rw [List.getElem_map, keys3_get, if_neg (Nat.not_lt_zero _), List.getElem_map, List.getD_eq_getElem?_getD, List.getElem?_eq_getElem hj]
 rfl
theorem keys3_set {t : Lts} {p : List Int} {S i : Nat} (_hi : i < S) : (keys3 t p S i).set i ([p.getD i 0] ++ sgT t p i) = keys3 t p S (i + 1) := by
 refine List.ext_getElem (by simp [keys3]) fun j h1 h2 => ?_
 rw [keys3_get h2]
 by_cases e : i = j
 ·subst e
  rw [List.getElem_set_self, if_pos (by omega)]
  rfl
 ·rw [List.getElem_set_ne e, keys3_get]
  by_cases hj : j < i
  ·rw [if_pos hj, if_pos (by omega)]
  ·rw [if_neg hj, if_neg (by omega)]
theorem keys3_all (t : Lts) (p : List Int) (S : Nat) : keys3 t p S S = (List.range S).map fun i => p.getD i 0 :: sgT t p i := by
 unfold keys3
 refine List.map_congr_left fun j hj => ?_
 rw [if_pos (List.mem_range.1 hj)]

end Go.Proofs.YtjoacldbgnphkaaGreatDoor

namespace Go.Proofs.YtjoacldbgnphkaaGreatDoor
open Go Go.RowKit


theorem far_symm {a b : Option Nat} (h : a = none ∨ a ≠ b) : b = none ∨ b ≠ a := by
 rcases h with h | h
 ·subst h
  cases b with
  | none => exact .inl rfl
  | some x => exact .inr (by simp)
 ·exact .inr fun e => h e.symm
structure RefM (eo ei lo L2 : Nat) (w : World) (kv sv : Value) (kvs svs : List Value) (xss rows : List (List Value)) (i : Nat) : Prop where
 keys : OwnRows eo ei lo w kv kvs xss
 head : w.ownsRow L2 eo 1 sv svs.length svs
 len : svs.length = rows.length
 sets : ∀ j (hj : j < svs.length) (hj' : j < rows.length), i ≤ j → w.ownsRow L2 ei 1 svs[j] rows[j].length rows[j]
 far : ∀ a b (ha : a < svs.length) (hb : b < svs.length), a ≠ b → svs[a].ownBlock = none ∨ svs[a].ownBlock ≠ svs[b].ownBlock
 cross : ∀ a (ha : a < kvs.length) j (hj : j < svs.length), i ≤ j → kvs[a].ownBlock = none ∨ kvs[a].ownBlock ≠ svs[j].ownBlock
 two : kv.ownBlock = none ∨ kv.ownBlock ≠ sv.ownBlock
theorem RefM.start {eo ei lo : Nat} {wM w : World} {kv sv : Value} {kvs svs : List Value} {xss rows : List (List Value)} (hk : OwnRows eo ei lo wM kv kvs xss) (hb : Below wM.heap.size wM w) (hs : OwnRows eo ei wM.heap.size w sv svs rows) :
  RefM eo ei lo wM.heap.size w kv sv kvs svs xss rows 0 := by
 have key : ∀ {a b : Option Nat}, (∀ x, a = some x → x < wM.heap.size) → (∀ x, b = some x → wM.heap.size ≤ x) → a = none ∨ a ≠ b := by
  intro a b ha hb
  cases a with
  | none => exact .inl rfl
  | some x =>
   refine .inr fun e => ?_
   have h1 := ha x rfl
   have h2 := hb x e.symm
   omega
 exact ⟨hk.below hb, hs.2.1, hs.1, fun j hj hj' _ => hs.2.2.1 j hj hj', hs.2.2.2, fun a ha j hj _ => key (fun x e => ((hk.2.2.1 a ha (by have := hk.1; omega)).lt x e).2) (fun x e => ((hs.2.2.1 j hj (by have := hs.1; omega)).lt x e).1),
  key (fun x e => (hk.2.1.lt x e).2) (fun x e => (hs.2.1.lt x e).1)⟩
theorem RefM.mid {eo ei lo L2 i : Nat} {w w2 : World} {kv sv : Value} {kvs svs : List Value} {xss rows : List (List Value)} (he : eo ≠ ei) (h : RefM eo ei lo L2 w kv sv kvs svs xss rows i) (hi : i < svs.length)
  (hg1 : w.grownBy w2 svs[i].ownBlock) : OwnRows eo ei lo w2 kv kvs xss :=
 h.keys.kept hg1 (own_types h.keys.2.1 (h.sets i hi (by have := h.len; omega) (Nat.le_refl _)) he) fun a ha => h.cross a ha i hi (Nat.le_refl _)
theorem RefM.step {eo ei lo L2 i : Nat} {w w2 w3 w4 : World} {kv sv v3 : Value} {kvs svs : List Value} {xss rows : List (List Value)} {ys : List Value} (he : eo ≠ ei) (h : RefM eo ei lo L2 w kv sv kvs svs xss rows i) (hi : i < svs.length) (hik : i < kvs.length)
  (hg1 : w.grownBy w2 svs[i].ownBlock) (hg3 : w2.grownBy w3 kvs[i].ownBlock) (ho3 : w3.ownsRow lo ei 1 v3 ys.length ys) (hb3 : ∀ b, v3.ownBlock = some b → kvs[i].ownBlock = some b ∨ w2.heap.size ≤ b)
  (hg4 : w3.grownBy w4 kv.ownBlock) (hv4 : w4.ownsRow lo eo 1 kv kvs.length (kvs.set i v3)) : RefM eo ei lo L2 w4 kv sv (kvs.set i v3) svs (xss.set i ys) rows (i + 1) := by
 have hil : i < rows.length := by have := h.len; omega
 have hkl := h.keys.1
 have hix : i < xss.length := by omega
 have k2 := h.mid he hi hg1
 have hki := k2.2.2.1 i hik hix
 have k4 := OwnRows.grow he k2 i hik hg3 ho3 hb3 hg4 hv4
 have kh3 : w3.ownsRow lo eo 1 kv kvs.length kvs := k2.2.1.kept hg3 (own_types k2.2.1 hki he)
 have hd2 := h.head.kept hg1 (own_types h.head (h.sets i hi hil (Nat.le_refl _)) he)
 have hd3 := hd2.kept hg3 (own_types hd2 hki he)
 have hd4 := hd3.kept hg4 (far_symm h.two)
 refine ⟨k4, hd4, h.len, fun j hj hj' hij => ?_, h.far, fun a ha j hj hij => ?_, h.two⟩
 ·have s2 := (h.sets j hj hj' (by omega)).kept hg1 (h.far j i hj hi (by omega))
  have s3 := s2.kept hg3 (far_symm (h.cross i hik j hj (by omega)))
  exact s3.kept hg4 (own_types s3 kh3 (fun e => he e.symm))
 ·simp only [List.length_set] at ha
  by_cases e : i = a
  ·subst e
   rw [List.getElem_set_self]
   cases hb : v3.ownBlock with
   | none => exact .inl rfl
   | some b =>
    refine .inr fun e => ?_
    rcases hb3 b hb with h1 | h1
    ·rcases h.cross i hik j hj (by omega) with h2 | h2
     ·rw [h1] at h2; cases h2
     ·exact h2 (h1.trans e)
    ·have h2 := ((h.sets j hj (by have := h.len; omega) (by omega)).lt b e.symm).2
     have := hg1.size
     omega
  ·rw [List.getElem_set_ne e]
   exact h.cross a ha j hj (by omega)

end Go.Proofs.YtjoacldbgnphkaaGreatDoor

namespace Go.Proofs.YtjoacldbgnphkaaGreatDoor
open Go Go.RowKit


/-- The keys of the states. -/
def keysG (t : Lts) (p : List Int) (S : Nat) : List (List Int) := (List.range S).map (sgT t p)
theorem keysG_len (t : Lts) (p : List Int) (S : Nat) : (keysG t p S).length = S := by simp [keysG]
theorem keysG_get {t : Lts} {p : List Int} {S i : Nat} (h : i < (keysG t p S).length) : (keysG t p S)[i] = sgT t p i := by simp [keysG]
/-- The list while it is filled. -/
def fillF (F : List Int) (S i : Nat) : List Value := (F.take i).map (Value.int .i64) ++ List.replicate (S - i) (.int .i64 0)
def fillX (F : List Int) (S i : Nat) (x : Int) : List Value := (F.take i).map (Value.int .i64) ++ (Value.int .i64 x :: List.replicate (S - (i + 1)) (.int .i64 0))
theorem fillF_set {F : List Int} {S i : Nat} (hF : F.length = S) (hi : i < S) (x : Int) : (fillF F S i).set i (.int .i64 x) = fillX F S i x := by
 unfold fillF fillX
 have hl : ((F.take i).map (Value.int .i64)).length = i := by rw [List.length_map, List.length_take]; omega
 rw [List.set_append_right _ _ (by omega), hl, Nat.sub_self, show S - i = (S - (i + 1)) + 1 by omega, List.replicate_succ, List.set_cons_zero]
theorem fillX_set {F : List Int} {S i : Nat} (hF : F.length = S) (hi : i < S) (x y : Int) : (fillX F S i x).set i (.int .i64 y) = fillX F S i y := by
 unfold fillX
 have hl : ((F.take i).map (Value.int .i64)).length = i := by rw [List.length_map, List.length_take]; omega
 rw [List.set_append_right _ _ (by omega), hl, Nat.sub_self, List.set_cons_zero]
theorem fillX_next {F : List Int} {S i : Nat} (hF : F.length = S) (hi : i < S) {x : Int} (h : F[i]? = some x) : fillX F S i x = fillF F S (i + 1) := by
 unfold fillX fillF
 have h2 : F[i]'(by omega) = x := by
  rw [List.getElem?_eq_getElem (by omega)] at h
  exact Option.some.inj h
 rw [List.take_succ_eq_append_getElem (by omega), h2, List.map_append, List.append_assoc]
 rfl
theorem fillX_at {F : List Int} {S i k : Nat} (hF : F.length = S) (hi : i < S) (hk : k < i) (x : Int) : (fillX F S i x)[k]? = some (.int .i64 (F.getD k 0)) := by
 unfold fillX
 rw [List.getElem?_append_left (by rw [List.length_map, List.length_take]; omega), List.getElem?_map, List.getElem?_take, if_pos hk, List.getElem?_eq_getElem (by omega), getD_eq (by omega)]
 rfl
theorem fillF_all {F : List Int} {S : Nat} (hF : F.length = S) : fillF F S S = F.map (Value.int .i64) := by unfold fillF; rw [Nat.sub_self, List.take_of_length_le (by omega)]; simp

set_option maxRecDepth 100000 in
set_option maxHeartbeats 4000000 in
theorem next14_any (bt lo lo2 S : Nat) (t : Lts) (pv : Value) (p : List Int) (w : World) (hv : Valid t) (hS : (S : Int) = t.states) (hip : InP t p) (hp : LtsPtr lo w bt t) (hpv : SliceK 1 encI lo2 w pv p) :
  Calls Tryz.prog 38 #[.pointer (some ⟨bt, 0, none⟩), pv] w (MadeNums (blocksL (keysG t p S)) w) := by
 have HV := Lib.hid hv
 have HIP := Lib.hid hip
 have HP := Lib.hid hp
 have HPV := Lib.hid hpv
 have HSS := Lib.hid hS
 obtain ⟨lv, ev, hpl, q0, -⟩ := hp
 rw [← hS] at q0
 have HQ0 := Lib.hid q0
 obtain ⟨pa, pc, rfl, -, -, -⟩ := hpv
 have hs0 := hv.st0
 have hs1 := hv.st1
 have hS40 : S ≤ 40 := by omega
 have hS1 : 1 ≤ S := by omega
 obtain ⟨F, hF⟩ : ∃ F, F = firstIx (keysG t p S) := ⟨_, rfl⟩
 have hFS : F.length = S := by rw [hF, firstIx_len, keysG_len]
 have HF := Lib.hid hF
 have HFS := Lib.hid hFS
 have HCO : Hid (∀ (a b : Nat) (w' : World), Below w.heap.size w w' → Calls Tryz.prog 57 #[.pointer (some ⟨bt, 0, none⟩), .slice pa p.length pc, .int .i64 a, .int .i64 b] w' fun e w'' => e = .returned (.bool (covB t p a b)) ∧ Below w'.heap.size w' w'') := fun a b w' hb => covers_any bt lo lo2 S t _ p a b w' HV.out HSS.out HIP.out (HP.out.below hb) (HPV.out.below hb)
 obtain ⟨i1, hi1, hz10, hz11, hz12⟩ := info_parts info_int64N
 obtain ⟨PL, hPL⟩ : ∃ PL, PL = p.length := ⟨_, rfl⟩
 rw [← hPL] at HCO ⊢
 clear hv hip hS hs0 hs1 hF hFS hPL
 go_enter Tryz.func38, Tryz.ntmps38
 go_wp2_with (at_make; refine wpList_make_full _ rfl _ _ 69 rfl w.heap.size 2 i1 _ 1 Tryz.underlying69 hi1 hz10 hz11 .i64 .i64 _ _ S rfl rfl rfl rfl ?_ ?_ ?_ ?_)
 ·rw [hz12]; omega
 ·simp [maxLen]; omega
 ·exact Nat.le_refl _
 intro w1 ho hg
 rw [toList_madeCells_one] at ho
 obtain ⟨G, hG⟩ : ∃ G, G = w.heap.size := ⟨_, rfl⟩
 have HB1 : Hid (Below w.heap.size w w1) := (Below.refl _ w).grown hg (Nat.le_refl _) (fun _ h => by cases h)
 rw [← hG] at ho ⊢
 have HO : Hid (w1.ownsRow G 2 1 (.slice (some ⟨G, 0, none⟩) S S) S (List.replicate S (.int .i64 0))) := by
  unfold Hid; simpa using ho
 have HG := Lib.hid hG
 clear ho hg hG hi1 hz10 hz11 hz12
 go_wp2
 go_loopw [6] (fun v6 wr => ∃ i : Nat, i ≤ S ∧ v6 = .int .i64 i ∧ Below w.heap.size w wr ∧ wr.ownsRow G 2 1 (.slice (some ⟨G, 0, none⟩) S S) S (fillF F S i)) (fun v6 _ => S - (intOf v6).toNat)
 case atStart => exact ⟨0, Nat.zero_le _, rfl, HB1.out, by simpa [fillF] using HO.out⟩
 case round =>
  clear HO HB1
  obtain ⟨i, hi, rfl, hbl, ho⟩ := hrel
  obtain ⟨wC, rfl⟩ : ∃ wC : World, wC = wr := ⟨_, rfl⟩
  have HBL := Lib.hid hbl
  have HO := Lib.hid ho
  have hszC := hbl.size
  have q0 := keeps hbl hpl HQ0.out
  clear hbl ho
  by_cases hlt : i < S
  ·have hin : i < S := hlt
   have c0 : wC.cell? ⟨G, i, none⟩ = some (.int .i64 0) := by
    have := HO.out.cellAt i (by omega)
    rw [this]
    unfold fillF
    rw [List.getElem?_append_right (by rw [List.length_map, List.length_take, HFS.out]; omega), List.length_map, List.length_take, HFS.out, List.getElem?_replicate, if_pos (by omega)]
   have f0 := HO.out.frozenAt i
   have hst := HO.out.stored i (.int .i64 i)
   rw [fillF_set HFS.out hlt] at hst
   obtain ⟨wD, hwD⟩ : ∃ wD, wD = wC.setCell ⟨G, i, none⟩ (.int .i64 i) := ⟨_, rfl⟩
   rw [← hwD] at hst
   have HOD := Lib.hid hst.1
   have HBD : Hid (Below w.heap.size w wD) := by unfold Hid; rw [hwD]; exact HBL.out.setCell (by rw [HG.out]; exact Nat.le_refl _) _
   have HWD := Lib.hid hwD
   clear hst hwD
   go_wp2
   rw [← HWD.out]
   clear HWD c0 f0 q0
   go_loopw [7] (fun v7 wr => ∃ k : Nat, k ≤ i ∧ v7 = .int .i64 k ∧ Below w.heap.size w wr ∧ wr.ownsRow G 2 1 (.slice (some ⟨G, 0, none⟩) S S) S (fillX F S i i) ∧ ∀ j, j < k → sgT t p j ≠ sgT t p i) (fun v7 _ => i - (intOf v7).toNat)
   case atStart => exact ⟨0, Nat.zero_le _, rfl, HBD.out, HOD.out, fun j hj => absurd hj (Nat.not_lt_zero _)⟩
   case round =>
    clear HBD HOD HBL HO
    obtain ⟨k, hk, rfl, hbl, ho, hno⟩ := hrel
    obtain ⟨wE, rfl⟩ : ∃ wE : World, wE = wr := ⟨_, rfl⟩
    have HB := Lib.hid hbl
    have HO := Lib.hid ho
    have HNO := Lib.hid hno
    have hszE := hbl.size
    clear hbl ho hno
    by_cases hlk : k < i
    ·have HC1 := Lib.hid (HCO.out i k wE HB.out)
     have HSG : Hid (sgT t p i = sgT t p k ↔ covB t p i k = true ∧ covB t p k i = true) := sg_cov HV.out HIP.out
     cases g1 : covB t p i k
     ·rw [g1] at HC1
      have HNE : Hid (∀ j, j < k + 1 → sgT t p j ≠ sgT t p i) := fun j hj => by
       rcases Nat.lt_succ_iff_lt_or_eq.1 hj with h | h
       ·exact HNO.out j h
       ·rw [h]
        intro e
        have := (HSG.out.1 e.symm).1
        rw [g1] at this
        cases this
      clear g1
      go_wp2_with fail
      refine Calls.mono HC1.out ?_
      rintro e wF ⟨rfl, hb⟩
      have HB2 := Lib.hid (HB.out.trans (hb.mono hszE))
      have HO2 := Lib.hid (owns_below HO.out hb)
      clear hb HC1 HB HO
      go_wp2
      go_roundw
      case rel => exact ⟨k + 1, by omega, by go_num, HB2.out, HO2.out, HNE.out⟩
      case measure => simp [intOf]; omega
     ·rw [g1] at HC1
      cases g2 : covB t p k i
      ·have HNE : Hid (∀ j, j < k + 1 → sgT t p j ≠ sgT t p i) := fun j hj => by
        rcases Nat.lt_succ_iff_lt_or_eq.1 hj with h | h
        ·exact HNO.out j h
        ·rw [h]
         intro e
         have := (HSG.out.1 e.symm).2
         rw [g2] at this
         cases this
       go_wp2_with fail
       refine Calls.mono HC1.out ?_
       rintro e wF ⟨rfl, hb⟩
       have HB2 := Lib.hid (HB.out.trans (hb.mono hszE))
       have HO2 := Lib.hid (owns_below HO.out hb)
       have HC2 := Lib.hid (HCO.out k i wF HB2.out)
       rw [g2] at HC2
       have hszF := HB2.out.size
       clear hb HC1 HB HO g1 g2
       go_wp2_with fail
       refine Calls.mono HC2.out ?_
       rintro e wH ⟨rfl, hb⟩
       have HB3 := Lib.hid (HB2.out.trans (hb.mono hszF))
       have HO3 := Lib.hid (owns_below HO2.out hb)
       clear hb HC2 HB2 HO2
       go_wp2
       go_roundw
       case rel => exact ⟨k + 1, by omega, by go_num, HB3.out, HO3.out, HNE.out⟩
       case measure => simp [intOf]; omega
      ·have HEQ : Hid (F[i]? = some (F.getD k 0)) := by
        have e := HSG.out.2 ⟨g1, g2⟩
        have hl : k < F.length := by rw [HFS.out]; omega
        unfold Hid
        rw [getD_eq hl, ← List.getElem?_eq_getElem hl, HF.out, firstIx_at (by rw [keysG_len]; exact hlt), firstIx_at (by rw [keysG_len]; omega), keysG_get, keysG_get, e]
       go_wp2_with fail
       refine Calls.mono HC1.out ?_
       rintro e wF ⟨rfl, hb⟩
       have HB2 := Lib.hid (HB.out.trans (hb.mono hszE))
       have HO2 := Lib.hid (owns_below HO.out hb)
       have HC2 := Lib.hid (HCO.out k i wF HB2.out)
       rw [g2] at HC2
       have hszF := HB2.out.size
       clear hb HC1 HB HO g1 g2
       go_wp2_with fail
       refine Calls.mono HC2.out ?_
       rintro e wH ⟨rfl, hb⟩
       have HB3 := Lib.hid (HB2.out.trans (hb.mono hszF))
       have HO3 := Lib.hid (owns_below HO2.out hb)
       have hc := HO3.out.cellAt k (by omega)
       rw [fillX_at HFS.out hlt hlk] at hc
       have hi2 := HO3.out.cellAt i (by omega)
       obtain ⟨xc, hxc⟩ := own_cell HO3.out i (by omega)
       have f0 := HO3.out.frozenAt i
       have hst := HO3.out.stored i (.int .i64 (F.getD k 0))
       rw [fillX_set HFS.out hlt, fillX_next HFS.out hlt HEQ.out] at hst
       have HO4 := Lib.hid hst.1
       clear hb HC2 HB2 HO2 hst hi2
       go_wp2
       go_roundw
       case rel => exact ⟨i + 1, by omega, by go_num, HB3.out.setCell (by rw [HG.out]; exact Nat.le_refl _) _, HO4.out⟩
       case measure => simp [intOf]; omega
    ·have hki : k = i := by omega
     have HEQ : Hid (F[i]? = some (i : Int)) := by
      unfold Hid
      rw [HF.out, firstIx_at (by rw [keysG_len]; exact hlt)]
      congr 2
      refine fstIx_eq (List.getElem?_eq_getElem _) fun j hj h => ?_
      rw [List.getElem?_eq_getElem (by rw [keysG_len]; omega), keysG_get, keysG_get] at h
      exact HNO.out j (by omega) (Option.some.inj h)
     have HO4 : Hid (wE.ownsRow G 2 1 (.slice (some ⟨G, 0, none⟩) S S) S (fillF F S (i + 1))) := by
      have := HO.out
      rw [fillX_next HFS.out hlt HEQ.out] at this
      exact this
     clear hki
     go_wp2
     go_roundw
     case rel => exact ⟨i + 1, by omega, by go_num, HB.out, HO4.out⟩
     case measure => simp [intOf]; omega
  ·have HK : Hid (i = S) := Lib.hid (show i = S by omega)
   have hown : wC.ownsRow G 2 1 (.slice (some ⟨G, 0, none⟩) S S) F.length (F.map (Value.int .i64)) := by
    have := HO.out
    rw [HK.out, fillF_all HFS.out] at this
    rw [HFS.out]
    exact this
   have hsl : SliceK 1 encI G wC (.slice (some ⟨G, 0, none⟩) S S) F := SliceK.of_owns (enc := encI) (e := 2) encI_len rfl (by rw [flat_encI]; exact hown)
   have HN := Lib.hid (l02Norm_any G _ F wC (by rw [HFS.out]; omega) hsl)
   have HFN : Hid (normL F = blocksL (keysG t p S)) := by unfold Hid; rw [HF.out]; rfl
   clear hown hsl HO
   go_wp2_with fail
   refine Calls.mono HN.out ?_
   rintro e wZ ⟨v, rfl, hb, ho⟩
   have HBZ := Lib.hid (HBL.out.trans (hb.mono hszC))
   have HOZ := Lib.hid (own_lower ho hszC)
   clear hb ho HN
   go_wp2
   go_ret
   exact ⟨v, rfl, HBZ.out, by rw [← HFN.out]; exact HOZ.out⟩

end Go.Proofs.YtjoacldbgnphkaaGreatDoor

namespace Go.Proofs.YtjoacldbgnphkaaGreatDoor
open Go Go.RowKit


set_option maxRecDepth 100000 in
set_option maxHeartbeats 1000000 in
theorem l00Same_any (lo lo2 : Nat) (v v2 : Value) (xs ys : List Int) (w : World) (hv : SliceK 1 encI lo w v xs) (hv2 : SliceK 1 encI lo2 w v2 ys) : Calls Tryz.prog 39 #[v, v2] w fun e w' => e = .returned (.bool (xs == ys)) ∧ Below w.heap.size w w' := by
 obtain ⟨a, cap, rfl, hn, hcap, hrow⟩ := hv
 obtain ⟨a2, cap2, rfl, hn2, hcap2, hrow2⟩ := hv2
 by_cases hl : xs.length = ys.length
 ·have hl1 : ((xs.length : Int) == (ys.length : Int)) = true := by rw [beq_iff_eq]; omega
  have HL := Lib.hid hl
  rw [← hl] at hn2
  have hl2 : (ys.length : Int) = (xs.length : Int) := by omega
  clear hl
  go_enter Tryz.func39, Tryz.ntmps39
  go_wp2
  clear hl1
  go_loopw [5] (fun i wr => ∃ k : Nat, k ≤ xs.length ∧ i = .int .i64 k ∧ Below w.heap.size w wr ∧ ∀ j (h : j < xs.length) (h2 : j < ys.length), j < k → xs[j] = ys[j]) (fun i _ => xs.length - (intOf i).toNat)
  case atStart => exact ⟨0, Nat.zero_le _, rfl, Below.refl _ _, fun _ _ _ h => by omega⟩
  case round =>
   obtain ⟨k, hk, rfl, hbl, hx⟩ := hrel
   have HX := Lib.hid hx
   have HBL := Lib.hid hbl
   have hsz := hbl.size
   clear hx
   by_cases hlt : k < xs.length
   ·have hlt2 : k < ys.length := by have := HL.out; omega
    obtain ⟨b, o, rfl, -, hb, c⟩ := (hrow.below hbl).one hlt
    obtain ⟨b2, o2, rfl, -, hb2, c2⟩ := (hrow2.below hbl).one hlt2
    simp only [encI, List.getElem?_cons_zero] at c c2
    have s1 := later_cell hb c
    have s2 := later_cell hb2 c2
    clear hrow hrow2 hbl c c2
    cases g : (xs[k] == ys[k])
    ·have HG : Hid ((xs == ys) = false) := by
      unfold Hid
      rw [beq_eq_false_iff_ne] at g ⊢
      intro e
      subst e
      exact g rfl
     go_wp2
     refine wp_region_later (by kernel_rfl) (by kernel_rfl) ?_
     repeat (go_big_quiet_step ((fail)))
     refine wpQuiet_nil ?_
     intro _ hw9
     obtain ⟨nl, hw8⟩ := hw9
     subst hw8
     go_wp2
     go_ret
     exact ⟨ret_bool HG.out.symm, HBL.out.trans (nl.h.mono hsz)⟩
    ·have HG : Hid (xs[k] = ys[k]) := eq_of_beq g
     go_wp2
     refine wp_region_later (by kernel_rfl) (by kernel_rfl) ?_
     repeat (go_big_quiet_step ((fail)))
     refine wpQuiet_nil ?_
     intro _ hw9
     obtain ⟨nl, hw8⟩ := hw9
     subst hw8
     go_wp2
     go_roundw
     case rel => exact ⟨k + 1, by omega, by go_num, HBL.out.trans (nl.h.mono hsz), fun j h h2 h' => by
       by_cases e : j = k
       ·subst e; exact HG.out
       ·exact HX.out j h h2 (by omega)⟩
     case measure => simp [intOf]; omega
   ·clear hrow hrow2 hbl
    go_wp2
    go_ret
    refine ⟨ret_bool ?_, HBL.out⟩
    symm
    rw [beq_iff_eq]
    exact List.ext_getElem HL.out (fun j h1 h2 => HX.out j h1 h2 (by omega))
 ·have hl1 : ((xs.length : Int) == (ys.length : Int)) = false := by rw [beq_eq_false_iff_ne]; omega
  have HG : Hid ((xs == ys) = false) := by
   unfold Hid
   rw [beq_eq_false_iff_ne]
   exact fun e => hl (by rw [e])
  clear hl hrow hrow2
  go_enter Tryz.func39, Tryz.ntmps39
  go_wp2
  go_ret
  exact ⟨ret_bool HG.out.symm, Below.refl _ _⟩

end Go.Proofs.YtjoacldbgnphkaaGreatDoor

namespace Go.Proofs.YtjoacldbgnphkaaGreatDoor
open Go Go.RowKit


/-- A slice of slices of numbers in memory of the call's own. -/
def MadeIntss (xss : List (List Int)) (w : World) (e : Ending) (w' : World) : Prop :=
 ∃ v vs, e = .returned v ∧ Below w.heap.size w w' ∧ OwnIntss 69 2 w.heap.size w' v vs xss

end Go.Proofs.YtjoacldbgnphkaaGreatDoor

namespace Go.Proofs.YtjoacldbgnphkaaGreatDoor
open Go Go.RowKit


theorem info_sliceL : (Tryz.prog.info? 69).map (fun i => (i.zero, i.size, i.bytes)) = some (some (.slice none 0 0), 1, 24) := by kernel_rfl
theorem levs_take (t : Lts) (k : Nat) : (List.range (k + 1 + 1)).map (lev t) = (List.range (k + 1)).map (lev t) ++ [lev t (k + 1)] := by
 rw [List.range_succ, List.map_append]
 rfl
/-- Rows that are one row. -/
theorem owns_one {lo : Nat} {w : World} {v pv : Value} {xs : List Int} (h : w.ownsRow lo 69 1 v 1 [pv]) (hp : w.ownsRow lo 2 1 pv xs.length (xs.map (Value.int .i64))) : OwnIntss 69 2 lo w v [pv] [xs] := by
 have h0 : ∀ (i : Nat) (h : i < [pv].length), [pv][i] = pv := fun i hi => by
  have : i = 0 := by simpa using hi
  subst this
  rfl
 refine ⟨rfl, h, fun i hi hi' => ?_, fun i j hi hj hij => ?_, fun i hi => ?_⟩
 ·have : i = 0 := by simpa using hi
  subst this
  exact hp
 ·have e1 : i = 0 := by simpa using hi
  have e2 : j = 0 := by simpa using hj
  omega
 ·rw [h0 i hi]
  exact own_types hp h (by decide)

set_option maxRecDepth 100000 in
set_option maxHeartbeats 4000000 in
theorem levels_any (bt lo S : Nat) (t : Lts) (w : World) (hv : Valid t) (hS : (S : Int) = t.states) (hp : LtsPtr lo w bt t) :
  Calls Tryz.prog 20 #[.pointer (some ⟨bt, 0, none⟩)] w (MadeIntss (levs t) w) := by
 have HV := Lib.hid hv
 have HP := Lib.hid hp
 have HSS := Lib.hid hS
 obtain ⟨lv, ev, hpl, q0, -⟩ := hp
 rw [← hS] at q0
 have HQ0 := Lib.hid q0
 have hs0 := hv.st0
 have hs1 := hv.st1
 have hS40 : S ≤ 40 := by omega
 have hS1 : 1 ≤ S := by omega
 have hSN : t.states.toNat = S := by omega
 have HSN := Lib.hid hSN
 obtain ⟨hlast, hst, hch⟩ := last_ok hv
 rw [hSN] at hlast
 have HST := Lib.hid hst
 have HCH := Lib.hid hch
 have HNX : Hid (∀ (k : Nat) (lo2 : Nat) (pv : Value) (w' : World), Below w.heap.size w w' → SliceK 1 encI lo2 w' pv (lev t k) → Calls Tryz.prog 38 #[.pointer (some ⟨bt, 0, none⟩), pv] w' (MadeNums (lev t (k + 1)) w')) := fun k lo2 pv w' hb hpv => by
  have h := next14_any bt lo lo2 S t pv (lev t k) w' HV.out HSS.out (lev_in HV.out k) (HP.out.below hb) hpv
  have e : blocksL (keysG t (lev t k) S) = lev t (k + 1) := by
   rw [lev_ref, HSN.out]
   rfl
  rw [e] at h
  exact h
 obtain ⟨i1, hi1, hz10, hz11, hz12⟩ := info_parts info_int64N
 obtain ⟨i2, hi2, hz20, hz21, hz22⟩ := info_parts info_sliceL
 clear hv hS hs0 hs1 hst hch
 go_enter Tryz.func20, Tryz.ntmps20
 go_wp2_with (at_make; refine wpList_make_full _ rfl _ _ 69 rfl w.heap.size 2 i1 _ 1 Tryz.underlying69 hi1 hz10 hz11 .i64 .i64 _ _ S rfl rfl rfl rfl ?_ ?_ ?_ ?_)
 ·rw [hz12]; omega
 ·simp [maxLen]; omega
 ·exact Nat.le_refl _
 intro w1 ho hg
 rw [toList_madeCells_one] at ho
 obtain ⟨G, hG⟩ : ∃ G, G = w.heap.size := ⟨_, rfl⟩
 have HB1 : Hid (Below w.heap.size w w1) := (Below.refl _ w).grown hg (Nat.le_refl _) (fun _ h => by cases h)
 rw [← hG] at ho ⊢
 have HG := Lib.hid hG
 obtain ⟨w2, hw2⟩ : ∃ w2, w2 = w1.alloc (.cells #[.slice (some ⟨G, 0, none⟩) S S] 69) := ⟨_, rfl⟩
 have hsz1 : w.heap.size ≤ w1.heap.size := HB1.out.size
 have hal : Below w1.heap.size w1 w2 := by rw [hw2]; exact (Below.refl _ _).alloc (Nat.le_refl _) _
 have HO : Hid (OwnIntss 69 2 w.heap.size w2 (.slice (some ⟨w1.heap.size, 0, none⟩) 1 1) [.slice (some ⟨G, 0, none⟩) S S] [lev t 0]) := by
  have h1 : w1.ownsRow w.heap.size 2 1 (.slice (some ⟨G, 0, none⟩) S S) (lev t 0).length ((lev t 0).map (Value.int .i64)) := by
   rw [lev_zero, List.length_replicate, HSN.out, List.map_replicate, ← hG]
   simpa using ho
  have h2 := World.ownsRow_lit (base := w.heap.size) (size := 1) w1 #[.slice (some ⟨G, 0, none⟩) S S] (e := 69) 1 hsz1 (by simp [maxLen]) rfl
  rw [← hw2] at h2
  exact owns_one h2 (owns_below h1 hal)
 have HB2 : Hid (Below w.heap.size w w2) := HB1.out.trans (hal.mono hsz1)
 have HW2 := Lib.hid hw2
 clear ho hg hG hi1 hz10 hz11 hz12 hw2 hal
 go_wp2_with fail
 rw [← HW2.out]
 go_loopw [3, 4, 5] (fun v3 v4 v5 wr => ∃ (k : Nat) (g c : Nat) (vs : List Value) (pa : Option Addr) (pc : Nat), k ≤ lastR t ∧ v5 = .int .i64 k ∧ v4 = .slice (some ⟨g, 0, none⟩) (k + 1) c ∧ v3 = .slice pa S pc ∧ vs[k]? = some (.slice pa S pc) ∧ Below w.heap.size w wr ∧ OwnIntss 69 2 w.heap.size wr (.slice (some ⟨g, 0, none⟩) (k + 1) c) vs ((List.range (k + 1)).map (lev t))) (fun _ _ v5 _ => S - (intOf v5).toNat)
 case atStart => exact ⟨0, w1.heap.size, 1, _, some ⟨G, 0, none⟩, S, Nat.zero_le _, rfl, rfl, rfl, rfl, HB2.out, HO.out⟩
 case round =>
  clear HO HB2 HW2 HB1
  obtain ⟨k, g, c, vs, pa, pc, hk, rfl, rfl, rfl, hvk, hbl, ho⟩ := hrel
  obtain ⟨wC, rfl⟩ : ∃ wC : World, wC = wr := ⟨_, rfl⟩
  have hvl : vs.length = k + 1 := by have := ho.1; simpa using this
  have hkl : k < vs.length := by omega
  have hv3 : Value.slice pa S pc = vs[k] := by
   rw [List.getElem?_eq_getElem hkl] at hvk
   exact (Option.some.inj hvk).symm
  have hrow : wC.ownsRow w.heap.size 2 1 (.slice pa S pc) (lev t k).length ((lev t k).map (Value.int .i64)) := by
   have h := ho.2.2.1 k hkl (by simp)
   rw [← hv3] at h
   simpa using h
  have hsl : SliceK 1 encI w.heap.size wC (.slice pa S pc) (lev t k) := SliceK.of_owns (enc := encI) (e := 2) encI_len rfl (by rw [flat_encI]; exact hrow)
  clear hv3 hvk hrow
  have HB := Lib.hid hbl
  have HO := Lib.hid ho
  have HSL := Lib.hid hsl
  have HN := Lib.hid (HNX.out k _ _ wC hbl hsl)
  have hszC := hbl.size
  have q0 := keeps hbl hpl HQ0.out
  have hkS : k < S := by omega
  have HVL := Lib.hid hvl
  clear hbl ho hsl hvl hkl
  go_wp2_with fail
  refine Calls.mono HN.out ?_
  rintro e wD ⟨qv, rfl, hb, hq⟩
  obtain ⟨qa, qc, rfl, -, -⟩ := owns_slice hq
  have HBD := Lib.hid hb
  have HQ := Lib.hid hq
  have hszD := hb.size
  have hsq : SliceK 1 encI wC.heap.size wD (.slice qa (lev t (k + 1)).length qc) (lev t (k + 1)) := SliceK.of_owns (enc := encI) (e := 2) encI_len rfl (by rw [flat_encI]; exact hq)
  have HSM := Lib.hid (l00Same_any wC.heap.size w.heap.size _ _ _ _ wD hsq (HSL.out.below hb))
  have HLQ : Hid ((lev t (k + 1)).length = S) := by unfold Hid; rw [lev_len, HSN.out]
  clear hb hq hsq HN q0
  go_wp2_with fail
  refine Calls.mono HSM.out ?_
  rintro e wE ⟨rfl, hb⟩
  have hbE : Below wC.heap.size wC wE := HBD.out.trans (hb.mono hszD)
  have HBE := Lib.hid hbE
  have HQE := Lib.hid (owns_below HQ.out hb)
  have HBW : Hid (Below w.heap.size w wE) := HB.out.trans (hbE.mono hszC)
  have hszE : wC.heap.size ≤ wE.heap.size := hbE.size
  clear hb hbE HSM HQ HBD
  by_cases hkl : k = lastR t
  ·have he : (lev t (k + 1) == lev t k) = true := by rw [beq_iff_eq, hkl]; exact HST.out.symm
   have HKL := Lib.hid hkl
   have HOE := Lib.hid (HO.out.below HBE.out)
   clear hkl
   rw [he]
   go_wp2
   go_ret
   refine ⟨_, vs, rfl, HBW.out, ?_⟩
   have := HOE.out
   unfold levs
   rw [← HKL.out]
   exact this
  ·have he : (lev t (k + 1) == lev t k) = false := by
    rw [beq_eq_false_iff_ne]
    exact fun h => HCH.out k (by omega) h.symm
   rw [he]
   have HOE := Lib.hid (HO.out.below HBE.out)
   have hor : wE.ownsRow w.heap.size 69 1 (.slice (some ⟨g, 0, none⟩) (k + 1) c) (k + 1) vs := by
    have := HOE.out.2.1
    rw [HVL.out] at this
    exact this
   have HOR := Lib.hid hor
   have hk1 : k + 1 ≤ lastR t := by omega
   clear hor hkl
   go_wp2_with (at_builtin; refine wpList_append_lies _ rfl _ _ 44 rfl w.heap.size 69 i2 (.slice none 0 0) 1 24 Tryz.underlying44 hi2 hz20 hz21 hz22 rfl (by decide) _ _ _ rfl (HOR.out.alloc _) ⟨wE.heap.size, 0, none⟩ 1 1 [.slice qa (lev t (k + 1)).length qc] rfl rfl ?c1 ?c2 ?c3 ?c4 ?c5 ?c6 _ rfl ?_)
   case c1 => exact World.news_of_block (cs := #[.slice qa (lev t (k + 1)).length qc]) (t := 69) (fr := (0, 0)) (heap_alloc_new _ _)
   case c2 => intro u hu; simp at hu; subst hu; rfl
   case c3 => omega
   case c4 => simp [maxLen]; omega
   case c5 => omega
   case c6 => simp; omega
   intro g3 cap3 w3 ho3 hg3 hat3 hlt3
   have hal : Below wE.heap.size wE (wE.alloc (.cells #[.slice qa (lev t (k + 1)).length qc] 69)) := (Below.refl _ _).alloc (Nat.le_refl _) _
   have HO3 : Hid (OwnIntss 69 2 w.heap.size w3 (.slice (some ⟨g3, 0, none⟩) (k + 1 + 1) cap3) (vs ++ [.slice qa (lev t (k + 1)).length qc]) ((List.range (k + 1 + 1)).map (lev t))) := by
    unfold Hid
    rw [levs_take]
    refine OwnIntss.push (B := wC.heap.size) (xs := lev t (k + 1)) (by decide) HO.out (Nat.le_refl _) (HBE.out.trans (hal.mono hszE)) (owns_below HQE.out hal) hszC hg3 ?_
    rw [HVL.out]
    exact ho3
   have HB3 : Hid (Below w.heap.size w w3) := (HBW.out.trans (hal.mono (by omega))).grown hg3 (by simp; omega) (fun b e => by cases e; exact (HOR.out.lt g rfl).1)
   have HV3 : Hid ((vs ++ [Value.slice qa (lev t (k + 1)).length qc])[k + 1]? = some (.slice qa (lev t (k + 1)).length qc)) := by
    unfold Hid
    rw [← HVL.out]
    simp
   clear ho3 hg3 hat3 hlt3 hal HOR HOE HO HQE
   go_wp2
   go_roundw
   case rel => exact ⟨k + 1, g3, cap3, _, qa, qc, hk1, by go_num, rfl, by rw [HLQ.out], by rw [← HLQ.out]; exact HV3.out, HB3.out, HO3.out⟩
   case measure => simp [intOf]; omega

end Go.Proofs.YtjoacldbgnphkaaGreatDoor
