/-
  What the implementation's lts computes: labels sorted and each once, edges by the labels' places, where these stand in order.
-/
import Derived.Test.YthofaoabgbgbdaaGreatDoorG6
import Derived.Test.YthofaoabgbgbdaaGreatDoorG7
import Derived.Test.YthofaoabgbgbdaaGreatDoorG8
import Derived.Laws.AppendOwnNone
import Derived.Deep.RegionHeld3
namespace Go.Proofs.YthofaoabgbgbdaaGreatDoor
open Go Go.RowKit

theorem blk_own_neL {w : World} {b : Nat} {cs : List Value} {t : TypeId} (h : Blk w b cs t) {base e size n : Nat} {v : Value} {xs : List Value} (ho : w.ownsRow base e size v n xs) (he : e ≠ t) : some b ≠ v.ownBlock := by
 rcases own_type_ne ho (show w.heap[b]? = some (.cells cs.toArray t (0, 0)) from h) he with h | h
 ·rw [h]; simp
 ·exact fun e => h e.symm
/-- A list of texts that is appended: nil, or cells that lie somewhere. -/
def SrcS (w : World) (v : Value) (xs : List ByteArray) : Prop :=
 (v = .slice none 0 0 ∧ xs = []) ∨ ∃ b o c, v = .slice (some ⟨b, o, none⟩) xs.length c ∧ b < w.heap.size ∧ ∀ i (h : i < xs.length), w.cell? ⟨b, o + i, none⟩ = some (.string xs[i])
theorem SrcS.of_slice {lo : Nat} {w : World} {v : Value} {xs : List ByteArray} (h : SliceK 1 encS lo w v xs) (hn : 0 < xs.length) : SrcS w v xs := by
 obtain ⟨a, c, rfl, -, -, hrow⟩ := h
 rcases hrow with h | ⟨b, o, rfl, -, hb, hc⟩
 ·omega
 ·exact .inr ⟨b, o, c, rfl, hb, fun i hi => by have := hc i hi 0 (by omega); simpa [encS] using this⟩
theorem SrcS.of_own {base e : Nat} {w : World} {v : Value} {xs : List ByteArray} (h : w.ownsRow base e 1 v xs.length (xs.map .string)) : SrcS w v xs := by
 rcases h.2 with ⟨rfl, h0⟩ | ⟨g, cap, cur, rfl, -, hg, -⟩
 ·exact .inl ⟨rfl, List.eq_nil_of_length_eq_zero h0⟩
 ·refine .inr ⟨g, 0, cap, rfl, (Array.getElem?_eq_some_iff.1 hg).1, fun i hi => ?_⟩
  have := h.cellAt i (by omega)
  rw [Nat.zero_add, this, List.getElem?_map, List.getElem?_eq_getElem hi]
  rfl
theorem SrcS.below {w w' : World} {v : Value} {xs : List ByteArray} (h : SrcS w v xs) (hb : Below w.heap.size w w') : SrcS w' v xs := by
 rcases h with h | ⟨b, o, c, h1, h2, h3⟩
 ·exact .inl h
 ·exact .inr ⟨b, o, c, h1, Nat.lt_of_lt_of_le h2 hb.size, fun i hi => keeps hb h2 (h3 i hi)⟩

theorem append_src {P : Program} {ops : Array Oper} {rest : List Oper} {o : Oper} {a : Act} {w : World} {Q : Exit → Act → World → Prop} (hgd : o.guard = none) (s x : Operand) (t : TypeId)
  (ho : o.op = .call { callee := .builtin .append, args := #[s, x], argTypes := #[t, t] })
  (base : Nat) (e : TypeId) (i : TypeInfo) (z : Value) (bytes : Nat) (ht : P.underlying t = some (.slice e)) (hi : P.info? e = some i) (hz : i.zero = some z)
  (hsize : i.size = 1) (hby : i.bytes = bytes) (hzs : z.cells.size = 1) (v : Value) (n : Nat) (xs : List Value) (hs : a.eval s = v) (hown : w.ownsRow base e 1 v n xs)
  (ls : List ByteArray) (hsrc : SrcS w (a.eval x) ls) (h63 : n + ls.length ≤ maxLen) (hbytes : (n + ls.length) * bytes ≤ 140737488355328) (hbase : base ≤ w.heap.size)
  (h : ∀ v' w', w'.ownsRow base e 1 v' (n + ls.length) (xs ++ ls.map .string) → w.grownBy w' v.ownBlock → wpList P ops Q rest (a.put o.dst v') w') :
  wpList P ops Q (o :: rest) a w := by
 rcases hsrc with ⟨hx, rfl⟩ | ⟨b, off, c, hx, hb, hc⟩
 ·refine wpList_append_own_none hgd s x t ho base e i 1 ht hi v n xs hs hown hx (h v w ?_ (grown_refl _ _))
  simpa using hown
 ·refine wpList_append_own_at w hgd s x t ho base e i z 1 bytes ht hi hz hsize hby hzs (by omega) v n xs hs hown ⟨b, off, none⟩ ls.length c (ls.map .string) hx (by simp) ?_ ?_ h63 hbytes hbase (fun v' w' h1 h2 _ _ => h v' w' h1 h2)
  ·intro j u hu
   rw [List.getElem?_map, Option.map_eq_some_iff] at hu
   obtain ⟨y, hy, rfl⟩ := hu
   obtain ⟨hj, rfl⟩ := List.getElem?_eq_some_iff.1 hy
   have := hc j hj
   by_cases h0 : j = 0
   ·subst h0; (first | (simp [Addr.add]; done) | (simp only [Nat.add_zero] at this; exact this))
   ·(first | (simp [Addr.add, h0]; done) | (simp [Addr.add, h0]; exact this))
  ·intro u hu
   obtain ⟨y, -, rfl⟩ := List.mem_map.1 hu
   rfl

/-- The first place of a text. -/
theorem IndexL_any (lo : Nat) (v : Value) (x : ByteArray) (xs : List ByteArray) (k : Nat) (w : World) (hv : SliceK 1 encS lo w v xs) (hk : k < xs.length) (he : xs[k].toList = x.toList) (hf : ∀ j (h : j < xs.length), j < k → (x.toList == xs[j].toList) = false) :
  Calls Tryz.prog 94 #[v, .string x] w fun e w' => e = .returned (.int .i64 k) ∧ w = w' := by
 obtain ⟨a, c, rfl, hcn, hcc, hrow⟩ := hv
 have HF := Lib.hid hf
 have HE := Lib.hid he
 clear hf he
 go_enter Tryz.func94, Tryz.ntmps94
 go_wp2_with fail
 go_loop [8] (fun i => ∃ j : Nat, j ≤ k ∧ i = .int .i64 j) (fun i => xs.length - (intOf i).toNat)
 case atStart => exact ⟨0, Nat.zero_le _, rfl⟩
 case round =>
  obtain ⟨j, hj, rfl⟩ := hrel
  have hlt : j < xs.length := by omega
  obtain ⟨b1, o1, rfl, -, hbs, c1⟩ := hrow.one hlt
  simp only [encS, List.getElem?_cons_zero] at c1
  clear hrow
  by_cases hjk : j = k
  ·have h0 : (x.toList == xs[j].toList) = true := by subst hjk; rw [HE.out]; simp
   have HJ := Lib.hid hjk
   clear hjk
   go_wp2_with fail
   go_ret
   exact ⟨ret_int (by rw [HJ.out]), rfl⟩
  ·have h0 := HF.out j hlt (by omega)
   have hj2 : j + 1 ≤ k := by omega
   go_wp2_with fail
   go_round
   case rel => exact ⟨j + 1, hj2, by go_num⟩
   case measure => simp [intOf]; omega

/-- Where a text stands in a list. -/
def idxL (L : List ByteArray) (l : ByteArray) : Nat := L.findIdx fun x => x.toList == l.toList
theorem toList_inj {a b : ByteArray} (h : a.toList = b.toList) : a = b := data_inj (by rw [← Lib.toList_data, ← Lib.toList_data, h])
theorem idxL_get {L : List ByteArray} {l : ByteArray} (h : l ∈ L) : ∃ hk : idxL L l < L.length, L[idxL L l] = l ∧ ∀ j (h : j < L.length), j < idxL L l → (l.toList == L[j].toList) = false := by
 have h1 : idxL L l < L.length := by
  unfold idxL
  rw [List.findIdx_lt_length]
  exact ⟨l, h, by rw [beq_iff_eq]⟩
 refine ⟨h1, ?_, fun j hj hlt => ?_⟩
 ·have := List.findIdx_getElem (p := fun x : ByteArray => x.toList == l.toList) (xs := L) (w := h1)
  rw [beq_iff_eq] at this
  exact toList_inj this
 ·have := List.not_of_lt_findIdx (p := fun x : ByteArray => x.toList == l.toList) (xs := L) hlt
  have h2 : (L[j].toList == l.toList) = false := by simpa using this
  rw [beq_eq_false_iff_ne] at h2 ⊢
  exact fun e => h2 e.symm
def edgeIn (L : List ByteArray) (a : Arc) : Edge := ⟨a.src, (idxL L a.lab : Nat), a.dst⟩
def RetLts (n i : Int) (L : List ByteArray) (E : List Edge) (w : World) (e : Ending) (w' : World) : Prop :=
 ∃ lv ev, e = .returned (.agg #[.int .i64 n, .int .i64 i, lv, ev]) ∧ Below w.heap.size w w' ∧ w'.ownsRow w.heap.size 9 1 lv L.length (L.map .string) ∧ w'.ownsRow w.heap.size 68 3 ev E.length (E.flatMap encE)

theorem lts_results {w : World} {b : Nat} {v0 v1 v2 v3 : Value} {tmps : Array Value} (hc : tmps.getD 8 undef = .pointer (some ⟨b, 0, none⟩)) (hb : Blk w b [v0, v1, v2, v3] 27) :
  (results Tryz.f49 tmps).run Tryz.prog w = .ok (.agg #[v0, v1, v2, v3]) w := by
 have h0 := hb.cell 0 rfl
 have h1 := hb.cell 1 rfl
 have h2 := hb.cell 2 rfl
 have h3 := hb.cell 3 rfl
 simp only [Array.getD_eq_getD_getElem?] at hc
 simp [results, Tryz.results49, go_sem, hc, h0, h1, h2, h3, Result.andThen]

theorem info_strL : (Tryz.prog.info? 9).map (fun i => (i.zero, i.size, i.bytes)) = some (some (.string ⟨#[]⟩), 1, 16) := by kernel_rfl
theorem info_edgeL : (Tryz.prog.info? 68).map (fun i => (i.zero, i.size, i.bytes)) = some (some (.agg #[.int .i64 0, .int .i64 0, .int .i64 0]), 3, 24) := by kernel_rfl

/-- Between the steps of lts: the result's cell, the system under way, its labels, its edges. -/
structure LtsSt (W c0 o : Nat) (n i : Int) (Ls : List ByteArray) (Es : List Edge) (lv ev : Value) (w0 w : World) : Prop where
 res : Blk w c0 [.int .i64 0, .int .i64 0, .slice none 0 0, .slice none 0 0] 27
 out : Blk w o [.int .i64 n, .int .i64 i, lv, ev] 27
 labels : w.ownsRow W 9 1 lv Ls.length (Ls.map .string)
 edges : w.ownsRow W 68 3 ev Es.length (Es.flatMap encE)
 below : Below W w0 w

theorem own_sets {w : World} {base e size n : Nat} {v : Value} {xs : List Value} (h : w.ownsRow base e size v n xs) {b : Nat} {cs : List Value} {t : TypeId} (hb : Blk w b cs t) (he : e ≠ t) (i : Nat) (u : Value) : (w.setCell ⟨b, i, none⟩ u).ownsRow base e size v n xs :=
 h.kept (grown_setCell w ⟨b, i, none⟩ u) (own_type_ne h hb he)
theorem LtsSt.push {W c0 o : Nat} {n i : Int} {Ls : List ByteArray} {Es : List Edge} {x : Edge} {lv ev ev' : Value} {w0 w w2 w5 : World} (h : LtsSt W c0 o n i Ls Es lv ev w0 w) (hne : c0 ≠ o) (hW : W ≤ w.heap.size) (ho : W ≤ o) (hb : Below w.heap.size w w2) (hg : w2.grownBy w5 ev.ownBlock)
  (h5 : w5.ownsRow W 68 3 ev' (Es.length + 1) (Es.flatMap encE ++ encE x)) : LtsSt W c0 o n i Ls (Es ++ [x]) lv ev' w0 (w5.setCell ⟨o, 3, none⟩ ev') := by
 have E2 := owns_below h.edges hb
 have R2 := h.res.below hb
 have X2 := h.out.below hb
 have L2 := owns_below h.labels hb
 have R5 : Blk w5 c0 _ _ := (hg.block c0 R2.lt (blk_own_neL R2 E2 (by decide))).trans R2
 have X5 : Blk w5 o _ _ := (hg.block o X2.lt (blk_own_neL X2 E2 (by decide))).trans X2
 have L5 := L2.kept hg (own_types L2 E2 (by decide))
 have hs := grown_setCell w5 ⟨o, 3, none⟩ ev'
 have hW2 : W ≤ w2.heap.size := Nat.le_trans hW hb.size
 refine ⟨R5.setOther _ _ hne, X5.set 3 ev', L5.kept hs (own_type_ne L5 X5 (by decide)), ?_, ((h.below.trans (hb.mono hW)).grown hg hW2 (fun b e => (E2.lt b e).1)).setCell ho _⟩
 have := h5.kept hs (own_type_ne h5 X5 (by decide))
 simpa using this

set_option maxRecDepth 100000 in
set_option maxHeartbeats 4000000 in
theorem lts_any (lo2 : Nat) (n i : Int) (ls : List ByteArray) (xs : List Arc) (lv av : Value) (w : World) (hl : SrcS w lv ls) (ha : SliceK 3 encC lo2 w av xs) (hln : ls.length ≤ 1000) (han : xs.length ≤ 1000) (L : List ByteArray) (hL : labSet (tauT :: ls) = L)
  (hmem : ∀ a ∈ xs, a.lab ∈ L) (hE : RiseE (xs.map (edgeIn L))) :
  Calls Tryz.prog 49 #[.int .i64 n, .int .i64 i, lv, av] w (RetLts n i L (xs.map (edgeIn L)) w) := by
 have HSRC := Lib.hid hl
 have HMEM := Lib.hid hmem
 have HRE := Lib.hid hE
 have HLL := Lib.hid hL
 obtain ⟨aa, ca, rfl, hca, -, hrow⟩ := ha
 have HRW := Lib.hid hrow
 obtain ⟨i0, hi, hz0, hz1, hz2⟩ := info_parts info_strL
 obtain ⟨W, hW⟩ : ∃ W, W = w.heap.size := ⟨_, rfl⟩
 obtain ⟨wA, hwA⟩ : ∃ wA, wA = (w.alloc (.cells #[.int .i64 0, .int .i64 0, .slice none 0 0, .slice none 0 0] 27)).alloc (.cells #[.string ⟨#[116, 97, 117]⟩] 9) := ⟨_, rfl⟩
 have hsA : wA.heap.size = W + 2 := by rw [hwA, hW]; simp
 have HBA : Hid (Below W w wA) := by unfold Hid; rw [hwA, hW]; exact ((Below.refl _ _).alloc (Nat.le_refl _) _).alloc (by simp) _
 have HRA : Hid (Blk wA W [.int .i64 0, .int .i64 0, .slice none 0 0, .slice none 0 0] 27) := by
  unfold Hid
  rw [hwA, hW]
  exact (Blk.new w _ _).alloc _
 have HTA : Hid (wA.ownsRow W 9 1 (.slice (some ⟨W + 1, 0, none⟩) 1 1) 1 [.string ⟨#[116, 97, 117]⟩]) := by
  unfold Hid
  rw [hwA, hW]
  have := World.ownsRow_lit (base := w.heap.size) (e := 9) (size := 1) (w.alloc (.cells #[.int .i64 0, .int .i64 0, .slice none 0 0, .slice none 0 0] 27)) #[.string ⟨#[116, 97, 117]⟩] 1 (by simp) (by decide) rfl
  rw [World.size_alloc] at this
  exact this
 have HSA : Hid (SrcS wA lv ls) := HSRC.out.below (by rw [hW] at HBA; exact HBA.out)
 have HWA := Lib.hid hwA
 have HW := Lib.hid hW
 clear hl hmem hE hL hwA hW hrow
 go_enter Tryz.func49, Tryz.ntmps49
 go_wp2_with (at_builtin; refine append_src rfl _ _ 24 rfl W 9 i0 (.string ⟨#[]⟩) 16 Tryz.underlying24 hi hz0 hz1 hz2 rfl _ 1 _ rfl (by rw [← HWA.out, ← HW.out]; exact HTA.out) ls (by rw [← HWA.out]; exact HSA.out) ?c3 ?c4 ?c5 ?_)
 case c3 => simp [maxLen]; omega
 case c4 => omega
 case c5 => rw [HW.out]; simp; omega
 intro v1 w1 ho1 hg1
 rw [← HWA.out] at hg1
 rw [← HW.out] at hg1 ⊢
 obtain ⟨a1, c1, rfl, -, -⟩ := owns_slice ho1
 have HB1 : Hid (Below W w w1) := HBA.out.grown hg1 (by omega) (fun b e => by cases e; show W ≤ W + 1; omega)
 have HR1 : Hid (Blk w1 W [.int .i64 0, .int .i64 0, .slice none 0 0, .slice none 0 0] 27) := (hg1.block W HRA.out.lt (by simp [Value.ownBlock])).trans HRA.out
 have hs1 : W + 2 ≤ w1.heap.size := by have := hg1.size; omega
 obtain ⟨NL, hNL⟩ : ∃ NL, NL = 1 + ls.length := ⟨_, rfl⟩
 rw [← hNL] at ho1 ⊢
 have HO1 : Hid (w1.ownsRow W 9 1 (.slice a1 NL c1) (tauT :: ls).length ((tauT :: ls).map .string)) := by
  unfold Hid
  rw [List.length_cons, Nat.add_comm ls.length 1, ← hNL]
  exact ho1
 obtain ⟨w2, hw2⟩ : ∃ w2, w2 = w1.alloc (.cells #[.int .i64 n, .int .i64 i, .slice a1 NL c1, .slice none 0 0] 27) := ⟨_, rfl⟩
 obtain ⟨o, ho⟩ : ∃ o, o = w1.heap.size := ⟨_, rfl⟩
 have hoW : W + 2 ≤ o := by omega
 have HX2 : Hid (Blk w2 o [.int .i64 n, .int .i64 i, .slice a1 NL c1, .slice none 0 0] 27) := by unfold Hid; rw [hw2, ho]; exact Blk.new w1 _ _
 have HR2 : Hid (Blk w2 W [.int .i64 0, .int .i64 0, .slice none 0 0, .slice none 0 0] 27) := by unfold Hid; rw [hw2]; exact HR1.out.alloc _
 have HO2 : Hid (w2.ownsRow W 9 1 (.slice a1 NL c1) (tauT :: ls).length ((tauT :: ls).map .string)) := by unfold Hid; rw [hw2]; exact HO1.out.alloc _
 have HB2 : Hid (Below W w w2) := by unfold Hid; rw [hw2]; exact HB1.out.alloc (by omega) _
 have HC := Lib.hid (SortL_own W (.slice a1 NL c1) (tauT :: ls) w2 HO2.out (by rw [List.length_cons]; omega))
 have HW2 := Lib.hid hw2
 have HOo := Lib.hid ho
 have hs2 : W ≤ w2.heap.size := by have := HX2.out.lt; omega
 clear ho1 hg1 hNL hw2 ho hsA HTA HRA HBA HSA HWA HO1 HR1 HB1 hi hz0 hz1 hz2 hs1
 go_wp2_with fail
 rw [← HW2.out, ← HOo.out]
 refine Calls.mono HC.out ?_
 rintro e3 w3 ⟨rfl, ho3, hg3⟩
 have HX3 : Hid (Blk w3 o _ _) := (hg3.block o HX2.out.lt (blk_own_neL HX2.out HO2.out (by decide))).trans HX2.out
 have HR3 : Hid (Blk w3 W _ _) := (hg3.block W HR2.out.lt (blk_own_neL HR2.out HO2.out (by decide))).trans HR2.out
 have HB3 := Lib.hid (HB2.out.grown hg3 hs2 (fun b e => (HO2.out.lt b e).1))
 have HO3 := Lib.hid ho3
 have HC3 := Lib.hid (CompactL_own W (.slice a1 NL c1) (tauT :: ls) w3 ho3)
 rw [HLL.out] at HC3
 have x2 := HX3.out.cell 2 rfl
 have hs3 : W ≤ w3.heap.size := Nat.le_trans hs2 hg3.size
 clear ho3 hg3 HC HX2 HR2 HO2 HB2
 go_wp2_with fail
 refine Calls.mono HC3.out ?_
 rintro e4 w4 ⟨v4, rfl, ho4, hg4⟩
 have HX4 : Hid (Blk w4 o _ _) := (hg4.block o HX3.out.lt (blk_own_neL HX3.out HO3.out (by decide))).trans HX3.out
 have HR4 : Hid (Blk w4 W _ _) := (hg4.block W HR3.out.lt (blk_own_neL HR3.out HO3.out (by decide))).trans HR3.out
 have HB4 := Lib.hid (HB3.out.grown hg4 hs3 (fun b e => (HO3.out.lt b e).1))
 have HO4 := Lib.hid ho4
 obtain ⟨a4, c4, rfl, -, -⟩ := owns_slice ho4
 have HST : Hid (LtsSt W W o n i L [] (.slice a4 L.length c4) (.slice none 0 0) w (w4.setCell ⟨o, 2, none⟩ (.slice a4 L.length c4))) := by
  have hs := grown_setCell w4 ⟨o, 2, none⟩ (.slice a4 L.length c4)
  exact ⟨HR4.out.setOther _ _ (by show W ≠ o; omega), HX4.out.set 2 _, HO4.out.kept hs (own_type_ne HO4.out HX4.out (by decide)), World.ownsRow_nil _ _ _ _, HB4.out.setCell (by show W ≤ o; omega) _⟩
 have y2 := HX4.out.cell 2 rfl
 have z2 := HX4.out.frozen 2
 clear ho4 hg4 HC3 HX3 HR3 HO3 HB3 x2
 obtain ⟨NX, hNX⟩ : ∃ NX, NX = xs.length := ⟨_, rfl⟩
 rw [← hNX] at han hca ⊢
 have HNX := Lib.hid hNX
 obtain ⟨LL, hLL⟩ : ∃ LL, LL = L.length := ⟨_, rfl⟩
 rw [← hLL] at HST ⊢
 have HLN := Lib.hid hLL
 clear hNX hLL
 go_wp2
 go_loopw [27] (fun v27 wr => ∃ (k : Nat) (ev : Value), v27 = .int .i64 k ∧ k ≤ NX ∧ LtsSt W W o n i L ((xs.take k).map (edgeIn L)) (.slice a4 LL c4) ev w wr) (fun v27 _ => NX - (intOf v27).toNat)
 case atStart => exact ⟨0, _, rfl, Nat.zero_le _, HST.out⟩
 case round =>
  clear HST HX4 HR4 HB4 HO4 y2 z2
  obtain ⟨k, ev, rfl, hk, hst⟩ := hrel
  have HS := Lib.hid hst
  have hsz : W ≤ wr.heap.size := by have := hst.out.lt; omega
  have how := hst.out.lt
  obtain ⟨ae, ce, rfl, -, -⟩ := owns_slice hst.edges
  by_cases hlt : k < NX
  ·have hkx : k < xs.length := by rw [← HNX.out]; exact hlt
   have hbw : Below w.heap.size w wr := by have := hst.below; rw [HW.out] at this; exact this
   obtain ⟨ba, oa, rfl, -, hba, e1, e2, e3⟩ := (HRW.out.below hbw).arc hkx
   have hTK : (xs.take (k + 1)).map (edgeIn L) = (xs.take k).map (edgeIn L) ++ [edgeIn L xs[k]] := by rw [List.take_succ_eq_append_getElem hkx, List.map_append]; rfl
   have hxm := List.getElem_mem hkx
   have hes : ((xs.take k).map (edgeIn L)).length = k := by rw [List.length_map, List.length_take]; omega
   obtain ⟨x, hx⟩ : ∃ x, x = xs[k] := ⟨_, rfl⟩
   rw [← hx] at e1 e2 e3 hTK hxm
   obtain ⟨hk1, hk2, hk3⟩ := idxL_get (HMEM.out x hxm)
   obtain ⟨Es, hEs⟩ : ∃ Es, Es = (xs.take k).map (edgeIn L) := ⟨_, rfl⟩
   rw [← hEs] at HS hes hTK
   rw [← hEs, hes] at hst
   have HTK := Lib.hid hTK
   obtain ⟨m, hm⟩ : ∃ m, m = idxL L x.lab := ⟨_, rfl⟩
   have hek : encE (edgeIn L x) = [.int .i64 x.src, .int .i64 m, .int .i64 x.dst] := by rw [hm]; rfl
   have HEK := Lib.hid hek
   simp only [← hm] at hk1 hk2 hk3
   have HES := Lib.hid hes
   rw [hes] at HS
   obtain ⟨W1, hW1⟩ : ∃ W1, W1 = wr.alloc (.cells #[.int .i64 x.src, .string x.lab, .int .i64 x.dst] 125) := ⟨_, rfl⟩
   have hbW : Below wr.heap.size wr W1.drew := by rw [hW1]; exact ((Below.refl _ _).alloc (Nat.le_refl _) _).drew
   have hs1 : W1.heap.size = wr.heap.size + 1 := by rw [hW1]; simp
   have hv1 : Blk W1.drew wr.heap.size [.int .i64 x.src, .string x.lab, .int .i64 x.dst] 125 := by rw [hW1]; exact Blk.new wr _ _
   have P0 := hv1.cell 0 rfl
   have P1 := hv1.cell 1 rfl
   have P2 := hv1.cell 2 rfl
   have P3 := keeps hbW how (HS.out.out.cell 2 rfl)
   have P5 := keeps hbW how (HS.out.out.cell 3 rfl)
   have HIX := Lib.hid (IndexL_any W (.slice a4 LL c4) x.lab L m W1.drew (SliceK.of_owns (enc := encS) encS_len HLN.out (by rw [flat_encS]; have := owns_below HS.out.labels hbW; rw [← HLN.out] at this; exact this)) hk1 (by rw [hk2]) hk3)
   have hnew : ((W1.alloc (.cells #[.int .i64 x.src, .int .i64 m, .int .i64 x.dst] 68)).drew).heap[wr.heap.size + 1]? = some (.cells #[.int .i64 x.src, .int .i64 m, .int .i64 x.dst] 68 (0, 0)) := by
    have h1 := heap_alloc_new W1 (.cells #[.int .i64 x.src, .int .i64 m, .int .i64 x.dst] 68)
    rw [hs1] at h1
    exact h1
   have hA5 : Below W1.drew.heap.size W1.drew ((W1.alloc (.cells #[.int .i64 x.src, .int .i64 m, .int .i64 x.dst] 68)).drew) := ⟨rfl, rfl, rfl, by simp, fun k hk => Go.RowKit.Below.heap_alloc W1 _ k (by simpa using hk)⟩
   have hsd : W1.drew.heap.size = wr.heap.size + 1 := by simpa using hs1
   have R0 := keeps hA5 (by omega) P0
   have R1 := keeps hA5 (by omega) P1
   have R2 := keeps hA5 (by omega) P2
   have R3 := keeps hA5 (by omega) P3
   have R5 := keeps hA5 (by omega) P5
   have HBT := Lib.hid (hbW.trans (hA5.mono (by omega)))
   have HE2 : Hid (((W1.alloc (.cells #[.int .i64 x.src, .int .i64 m, .int .i64 x.dst] 68)).drew).ownsRow W 68 3 (.slice ae k ce) k (Es.flatMap encE)) := by
    unfold Hid
    have h9 := hst.edges
    rw [hes] at h9
    exact owns_below h9 HBT.out
   have R6 := (HS.out.out.below HBT.out).frozen 3
   have n0 : some wr.heap.size ≠ (Value.slice ae k ce).ownBlock := fun e => by have := (hst.edges.lt _ e.symm).2; omega
   have n3 : some o ≠ (Value.slice ae k ce).ownBlock := blk_own_neL hst.out hst.edges (by decide)
   have HW1 := Lib.hid hW1
   obtain ⟨sz, hsz1⟩ : ∃ sz, sz = wr.heap.size := ⟨_, rfl⟩
   rw [← hsz1] at P0 P1 P2 R0 R1 R2 hnew n0 hs1 how hsz
   have HSZ := Lib.hid hsz1
   obtain ⟨ie, hie, hie0, hie1, hie2⟩ := info_parts info_edgeL
   clear hk3 hk2 hk1
   clear hst hkx hbw hTK hxm hx hEs hm hek hW1 hbW hv1 hA5 hsd hsz1 hes
   go_wp2
   rw [← HW1.out, ← HSZ.out]
   refine wp_region_noPanic ?_
   refine wp_region_held_drew (S := fun w' => w'.cell? ⟨sz, 0, none⟩ = some (.int .i64 x.src) ∧ w'.cell? ⟨sz, 1, none⟩ = some (.string x.lab) ∧ w'.cell? ⟨sz, 2, none⟩ = some (.int .i64 x.dst) ∧ w'.cell? ⟨o, 2, none⟩ = some (.slice a4 LL c4)) (by kernel_rfl) ?hS (fun hHeld => ?goon)
   case hS =>
    try dsimp only
    first
         | (refine ⟨?_, ?_, ?_, ?_⟩ <;> assumption)
         | (refine ⟨?_, ?_, ?_, ?_⟩ <;> (rw [World.cell?_setCell_other _ _ _ _ (by simp)]; assumption))
         | go_keep
   case goon =>
    refine wpAnyH_take (i := 0) (oi := ?oi1) (v := ?v1) ?ho1 ?ka1 ?kb1 ?kc1 (fun _ _ _ h => h) (Or.inl ⟨?wn1, ?hy1⟩) (by assumption) ?rest1
    case ho1 => (simp only [List.getElem?_toArray, List.getElem?_cons_zero]; rfl)
    case ka1 => kernel_rfl
    case kb1 => kernel_rfl
    case kc1 => kernel_rfl
    case wn1 => rfl
    case hy1 => (intro w hSw; (try dsimp only at hSw); first | (go_simp; done) | (go_simp; with_reducible rfl))
    case rest1 =>
     try simp only [Act.put, List.setIfInBounds_toArray, List.set_cons_zero, List.set_cons_succ]
     refine wpAnyH_take (i := 2) (oi := ?oi2) (v := ?v2) ?ho2 ?ka2 ?kb2 ?kc2 (fun _ _ _ h => h) (Or.inl ⟨?wn2, ?hy2⟩) (by assumption) ?rest2
     case ho2 => (simp only [List.getElem?_toArray, List.getElem?_cons_succ, List.getElem?_cons_zero]; rfl)
     case ka2 => kernel_rfl
     case kb2 => kernel_rfl
     case kc2 => kernel_rfl
     case wn2 => rfl
     case hy2 => (intro w hSw; (try dsimp only at hSw); first | (go_simp; done) | (go_simp; with_reducible rfl))
     case rest2 =>
      try simp only [Act.put, List.setIfInBounds_toArray, List.set_cons_zero, List.set_cons_succ]
      refine wpAnyH_take (i := 3) (oi := ?oi3) (v := ?v3) ?ho3 ?ka3 ?kb3 ?kc3 (fun _ _ _ h => h) (Or.inl ⟨?wn3, ?hy3⟩) (by assumption) ?rest3
      case ho3 => (simp only [List.getElem?_toArray, List.getElem?_cons_succ, List.getElem?_cons_zero]; rfl)
      case ka3 => kernel_rfl
      case kb3 => kernel_rfl
      case kc3 => kernel_rfl
      case wn3 => rfl
      case hy3 => (intro w hSw; (try dsimp only at hSw); first | (go_simp; done) | (go_simp; with_reducible rfl))
      case rest3 =>
       try simp only [Act.put, List.setIfInBounds_toArray, List.set_cons_zero, List.set_cons_succ]
       refine wpAnyH_take (i := 4) (oi := ?oi4) (v := ?v4) ?ho4 ?ka4 ?kb4 ?kc4 (fun _ _ _ h => h) (Or.inl ⟨?wn4, ?hy4⟩) (by assumption) ?rest4
       case ho4 => (simp only [List.getElem?_toArray, List.getElem?_cons_succ, List.getElem?_cons_zero]; rfl)
       case ka4 => kernel_rfl
       case kb4 => kernel_rfl
       case kc4 => kernel_rfl
       case wn4 => rfl
       case hy4 => (intro w hSw; (try dsimp only at hSw); first | (go_simp; done) | (go_simp; with_reducible rfl))
       case rest4 =>
        try simp only [Act.put, List.setIfInBounds_toArray, List.set_cons_zero, List.set_cons_succ]
        refine wpAnyH_take (i := 5) (oi := ?oi5) (v := ?v5) ?ho5 ?ka5 ?kb5 ?kc5 (fun _ _ _ h => h) (Or.inl ⟨?wn5, ?hy5⟩) (by assumption) ?rest5
        case ho5 => (simp only [List.getElem?_toArray, List.getElem?_cons_succ, List.getElem?_cons_zero]; rfl)
        case ka5 => kernel_rfl
        case kb5 => kernel_rfl
        case kc5 => kernel_rfl
        case wn5 => rfl
        case hy5 => (intro w hSw; (try dsimp only at hSw); first | (go_simp; done) | (go_simp; with_reducible rfl))
        case rest5 =>
         try simp only [Act.put, List.setIfInBounds_toArray, List.set_cons_zero, List.set_cons_succ]
         refine wpAnyH_take (i := 6) (oi := ?oi6) (v := ?v6) ?ho6 ?ka6 ?kb6 ?kc6 (fun _ _ _ h => h) (Or.inl ⟨?wn6, ?hy6⟩) (by assumption) ?rest6
         case ho6 => (simp only [List.getElem?_toArray, List.getElem?_cons_succ, List.getElem?_cons_zero]; rfl)
         case ka6 => kernel_rfl
         case kb6 => kernel_rfl
         case kc6 => kernel_rfl
         case wn6 => rfl
         case hy6 => (intro w hSw; (try dsimp only at hSw); first | (go_simp; done) | (go_simp; with_reducible rfl))
         case rest6 =>
          try simp only [Act.put, List.setIfInBounds_toArray, List.set_cons_zero, List.set_cons_succ]
          refine wpAnyH_take (i := 7) (oi := ?oi7) (v := ?v7) ?ho7 ?ka7 ?kb7 ?kc7 (fun _ _ _ h => h) (Or.inl ⟨?wn7, ?hy7⟩) (by assumption) ?rest7
          case ho7 => (simp only [List.getElem?_toArray, List.getElem?_cons_succ, List.getElem?_cons_zero]; rfl)
          case ka7 => kernel_rfl
          case kb7 => kernel_rfl
          case kc7 => kernel_rfl
          case wn7 => rfl
          case hy7 => (intro w hSw; (try dsimp only at hSw); first | (go_simp; done) | (go_simp; with_reducible rfl))
          case rest7 =>
           try simp only [Act.put, List.setIfInBounds_toArray, List.set_cons_zero, List.set_cons_succ]
           refine wpAnyH_take (i := 9) (oi := ?oi8) (v := ?v8) ?ho8 ?ka8 ?kb8 ?kc8 (fun _ _ _ h => h) (Or.inl ⟨?wn8, ?hy8⟩) (by assumption) ?rest8
           case ho8 => (simp only [List.getElem?_toArray, List.getElem?_cons_succ, List.getElem?_cons_zero]; rfl)
           case ka8 => kernel_rfl
           case kb8 => kernel_rfl
           case kc8 => kernel_rfl
           case wn8 => rfl
           case hy8 => (intro w hSw; (try dsimp only at hSw); first | (go_simp; done) | (go_simp; with_reducible rfl))
           case rest8 =>
            try simp only [Act.put, List.setIfInBounds_toArray, List.set_cons_zero, List.set_cons_succ]
            refine wpAnyH_take (i := 10) (oi := ?oi9) (v := ?v9) ?ho9 ?ka9 ?kb9 ?kc9 (fun _ _ _ h => h) (Or.inl ⟨?wn9, ?hy9⟩) (by assumption) ?rest9
            case ho9 => (simp only [List.getElem?_toArray, List.getElem?_cons_succ, List.getElem?_cons_zero]; rfl)
            case ka9 => kernel_rfl
            case kb9 => kernel_rfl
            case kc9 => kernel_rfl
            case wn9 => rfl
            case hy9 => (intro w hSw; (try dsimp only at hSw); first | (go_simp; done) | (go_simp; with_reducible rfl))
            case rest9 =>
             try simp only [Act.put, List.setIfInBounds_toArray, List.set_cons_zero, List.set_cons_succ]
             refine wpAnyH_ready (rs := [1, 8]) (by kernel_rfl) (by simp) ?_
             refine AllReadyH.cons (o := ?o10) ?ho10 (fun K hK => ?st10) ?more10
             case ho10 => (simp only [List.getElem?_toArray, List.getElem?_cons_succ, List.getElem?_cons_zero]; rfl)
             case st10 =>
              go_simp
              refine hK.out _ _ ?hS10 (fun hHeld => ?goon10)
              case hS10 =>
               try dsimp only
               first
                    | (refine ⟨?_, ?_, ?_, ?_⟩ <;> assumption)
                    | (refine ⟨?_, ?_, ?_, ?_⟩ <;> (rw [World.cell?_setCell_other _ _ _ _ (by simp)]; assumption))
                    | go_keep
              case goon10 =>
               clear hK K
               try simp only [Act.put, List.setIfInBounds_toArray, List.set_cons_zero, List.set_cons_succ]
               refine wpAnyH_ready (rs := [8]) (by kernel_rfl) (by simp) ?_
               refine AllReadyH.cons (o := ?o11) ?ho11 (fun K hK => ?st11) ?more11
               case ho11 => (simp only [List.getElem?_toArray, List.getElem?_cons_succ, List.getElem?_cons_zero]; rfl)
               case st11 =>
                go_simp
                first
                     | (go_at_call 94; refine Calls.mono HIX.out ?_; rintro e w9 ⟨rfl, rfl⟩)
                     | (refine step_append_lies _ (by rfl) _ _ _ (by rfl) W 68 ie _ 3 24 Tryz.underlying25 hie hie0 hie1 hie2 rfl (by omega) (.slice ae k ce) k (Es.flatMap encE) (by rfl) HE2.out ⟨sz + 1, 0, none⟩ 1 1 [.int .i64 x.src, .int .i64 m, .int .i64 x.dst] (by rfl) (by rfl) (World.news_of_block (cs := #[.int .i64 x.src, .int .i64 m, .int .i64 x.dst]) (t := 68) (fr := (0, 0)) hnew) (by simp [Value.oneCell']) (by omega) (by first | omega | (simp [maxLen]; omega)) (by first | omega | (simp; omega)) (by first | omega | (simp; omega)) (sz + 2) (by first | omega | (simp; omega)) ?_; intro gg cap w5 hown5 hgrow5 hat5 hlt5; have z0 := (hgrow5.cell_far ⟨sz, 0, none⟩ (by simp; omega) n0).trans R0; have z1 := (hgrow5.cell_far ⟨sz, 1, none⟩ (by simp; omega) n0).trans R1; have z2 := (hgrow5.cell_far ⟨sz, 2, none⟩ (by simp; omega) n0).trans R2; have z3 := (hgrow5.cell_far ⟨o, 2, none⟩ (by simp; omega) n3).trans R3; have z5 := (hgrow5.cell_far ⟨o, 3, none⟩ (by simp; omega) n3).trans R5; have z6 := (hgrow5.frozen_far ⟨o, 3, none⟩ (by simp; omega) n3).trans R6)
                try go_wp2_with fail
                refine hK.out _ _ ?hS11 (fun hHeld => ?goon11)
                case hS11 =>
                 try dsimp only
                 first
                      | (refine ⟨?_, ?_, ?_, ?_⟩ <;> assumption)
                      | (refine ⟨?_, ?_, ?_, ?_⟩ <;> (rw [World.cell?_setCell_other _ _ _ _ (by simp)]; assumption))
                      | go_keep
                case goon11 =>
                 clear hK K
                 try simp only [Act.put, List.setIfInBounds_toArray, List.set_cons_zero, List.set_cons_succ]
                 refine wpAnyH_take (i := 11) (oi := ?oi12) (v := ?v12) ?ho12 ?ka12 ?kb12 ?kc12 (fun _ _ _ h => h) (Or.inl ⟨?wn12, ?hy12⟩) (by assumption) ?rest12
                 case ho12 => (simp only [List.getElem?_toArray, List.getElem?_cons_succ, List.getElem?_cons_zero]; rfl)
                 case ka12 => kernel_rfl
                 case kb12 => kernel_rfl
                 case kc12 => kernel_rfl
                 case wn12 => rfl
                 case hy12 => (intro w hSw; (try dsimp only at hSw); first | (go_simp; done) | (go_simp; with_reducible rfl))
                 case rest12 =>
                  try simp only [Act.put, List.setIfInBounds_toArray, List.set_cons_zero, List.set_cons_succ]
                  refine wpAnyH_ready (rs := [12]) (by kernel_rfl) (by simp) ?_
                  refine AllReadyH.cons (o := ?o13) ?ho13 (fun K hK => ?st13) ?more13
                  case ho13 => (simp only [List.getElem?_toArray, List.getElem?_cons_succ, List.getElem?_cons_zero]; rfl)
                  case st13 =>
                   go_simp
                   refine hK.out _ _ ?hS13 (fun hHeld => ?goon13)
                   case hS13 =>
                    try dsimp only
                    first
                         | (refine ⟨?_, ?_, ?_, ?_⟩ <;> assumption)
                         | (refine ⟨?_, ?_, ?_, ?_⟩ <;> (rw [World.cell?_setCell_other _ _ _ _ (by simp)]; assumption))
                         | go_keep
                   case goon13 =>
                    clear hK K
                    try simp only [Act.put, List.setIfInBounds_toArray, List.set_cons_zero, List.set_cons_succ]
                    refine wpAnyH_ready (rs := [13]) (by kernel_rfl) (by simp) ?_
                    refine AllReadyH.cons (o := ?o14) ?ho14 (fun K hK => ?st14) ?more14
                    case ho14 => (simp only [List.getElem?_toArray, List.getElem?_cons_succ, List.getElem?_cons_zero]; rfl)
                    case st14 =>
                     first
                          | (go_at_call 94; refine Calls.mono HIX.out ?_; rintro e w9 ⟨rfl, rfl⟩)
                          | (refine step_append_lies _ (by rfl) _ _ _ (by rfl) W 68 ie _ 3 24 Tryz.underlying25 hie hie0 hie1 hie2 rfl (by omega) (.slice ae k ce) k (Es.flatMap encE) (by rfl) HE2.out ⟨sz + 1, 0, none⟩ 1 1 [.int .i64 x.src, .int .i64 m, .int .i64 x.dst] (by rfl) (by rfl) (World.news_of_block (cs := #[.int .i64 x.src, .int .i64 m, .int .i64 x.dst]) (t := 68) (fr := (0, 0)) hnew) (by simp [Value.oneCell']) (by omega) (by first | omega | (simp [maxLen]; omega)) (by first | omega | (simp; omega)) (by first | omega | (simp; omega)) (sz + 2) (by first | omega | (simp; omega)) ?_; intro gg cap w5 hown5 hgrow5 hat5 hlt5; have z0 := (hgrow5.cell_far ⟨sz, 0, none⟩ (by simp; omega) n0).trans R0; have z1 := (hgrow5.cell_far ⟨sz, 1, none⟩ (by simp; omega) n0).trans R1; have z2 := (hgrow5.cell_far ⟨sz, 2, none⟩ (by simp; omega) n0).trans R2; have z3 := (hgrow5.cell_far ⟨o, 2, none⟩ (by simp; omega) n3).trans R3; have z5 := (hgrow5.cell_far ⟨o, 3, none⟩ (by simp; omega) n3).trans R5; have z6 := (hgrow5.frozen_far ⟨o, 3, none⟩ (by simp; omega) n3).trans R6)
                     refine hK.out _ _ ?hS14 (fun hHeld => ?goon14)
                     case hS14 =>
                      try dsimp only
                      first
                           | (refine ⟨?_, ?_, ?_, ?_⟩ <;> assumption)
                           | (refine ⟨?_, ?_, ?_, ?_⟩ <;> (rw [World.cell?_setCell_other _ _ _ _ (by simp)]; assumption))
                           | go_keep
                     case goon14 =>
                      clear hK K
                      try simp only [Act.put, List.setIfInBounds_toArray, List.set_cons_zero, List.set_cons_succ]
                      refine wpAnyH_take (i := 14) (oi := ?oi15) (v := ?v15) ?ho15 ?ka15 ?kb15 ?kc15 (fun _ _ _ h => h) (Or.inl ⟨?wn15, ?hy15⟩) (by assumption) ?rest15
                      case ho15 => (simp only [List.getElem?_toArray, List.getElem?_cons_succ, List.getElem?_cons_zero]; rfl)
                      case ka15 => kernel_rfl
                      case kb15 => kernel_rfl
                      case kc15 => kernel_rfl
                      case wn15 => rfl
                      case hy15 => (intro w hSw; (try dsimp only at hSw); first | (go_simp; done) | (go_simp; with_reducible rfl))
                      case rest15 =>
                       try simp only [Act.put, List.setIfInBounds_toArray, List.set_cons_zero, List.set_cons_succ]
                       refine wpAnyH_ready (rs := [15]) (by kernel_rfl) (by simp) ?_
                       refine AllReadyH.cons (o := ?o16) ?ho16 (fun K hK => ?st16) ?more16
                       case ho16 => (simp only [List.getElem?_toArray, List.getElem?_cons_succ, List.getElem?_cons_zero]; rfl)
                       case st16 =>
                        go_simp
                        refine hK.out _ _ ?hS16 (fun hHeld => ?goon16)
                        case hS16 =>
                         try dsimp only
                         first
                              | (refine ⟨?_, ?_, ?_, ?_⟩ <;> assumption)
                              | (refine ⟨?_, ?_, ?_, ?_⟩ <;> (rw [World.cell?_setCell_other _ _ _ _ (by simp)]; assumption))
                              | go_keep
                        case goon16 =>
                         clear hK K
                         try simp only [Act.put, List.setIfInBounds_toArray, List.set_cons_zero, List.set_cons_succ]
                         refine wpAnyH_done (by kernel_rfl) ?_ _
                         refine NoPanic.normal ?_
                         obtain ⟨ev', hev'⟩ : ∃ ev', ev' = Value.slice (some ⟨gg, 0, none⟩) (k + 1) cap := ⟨_, rfl⟩
                         rw [← hev'] at hown5 ⊢
                         have HP := Lib.hid (LtsSt.push (x := edgeIn L x) HS.out (by omega) (by rw [← HSZ.out]; exact hsz) (by omega) HBT.out hgrow5 (by rw [HES.out, HEK.out]; exact hown5))
                         clear hown5 hgrow5 hat5 hlt5 z0 z1 z2 z3 z5 z6 P0 P1 P2 P3 P5 R0 R1 R2 R3 R5 R6 hnew hev'
                         go_wp2
                         go_roundw
                         case rel => exact ⟨k + 1, ev', by go_num, by omega, by rw [HTK.out]; exact HP.out⟩
                         case measure => simp [intOf]; omega
                       exact AllReadyH.nil
                    exact AllReadyH.nil
                  exact AllReadyH.nil
               exact AllReadyH.nil
             refine AllReadyH.cons (o := ?o17) ?ho17 (fun K hK => ?st17) ?more17
             case ho17 => (simp only [List.getElem?_toArray, List.getElem?_cons_succ, List.getElem?_cons_zero]; rfl)
             case st17 =>
              go_simp
              first
                   | (go_at_call 94; refine Calls.mono HIX.out ?_; rintro e w9 ⟨rfl, rfl⟩)
                   | (refine step_append_lies _ (by rfl) _ _ _ (by rfl) W 68 ie _ 3 24 Tryz.underlying25 hie hie0 hie1 hie2 rfl (by omega) (.slice ae k ce) k (Es.flatMap encE) (by rfl) HE2.out ⟨sz + 1, 0, none⟩ 1 1 [.int .i64 x.src, .int .i64 m, .int .i64 x.dst] (by rfl) (by rfl) (World.news_of_block (cs := #[.int .i64 x.src, .int .i64 m, .int .i64 x.dst]) (t := 68) (fr := (0, 0)) hnew) (by simp [Value.oneCell']) (by omega) (by first | omega | (simp [maxLen]; omega)) (by first | omega | (simp; omega)) (by first | omega | (simp; omega)) (sz + 2) (by first | omega | (simp; omega)) ?_; intro gg cap w5 hown5 hgrow5 hat5 hlt5; have z0 := (hgrow5.cell_far ⟨sz, 0, none⟩ (by simp; omega) n0).trans R0; have z1 := (hgrow5.cell_far ⟨sz, 1, none⟩ (by simp; omega) n0).trans R1; have z2 := (hgrow5.cell_far ⟨sz, 2, none⟩ (by simp; omega) n0).trans R2; have z3 := (hgrow5.cell_far ⟨o, 2, none⟩ (by simp; omega) n3).trans R3; have z5 := (hgrow5.cell_far ⟨o, 3, none⟩ (by simp; omega) n3).trans R5; have z6 := (hgrow5.frozen_far ⟨o, 3, none⟩ (by simp; omega) n3).trans R6)
              try go_wp2_with fail
              refine hK.out _ _ ?hS17 (fun hHeld => ?goon17)
              case hS17 =>
               try dsimp only
               first
                    | (refine ⟨?_, ?_, ?_, ?_⟩ <;> assumption)
                    | (refine ⟨?_, ?_, ?_, ?_⟩ <;> (rw [World.cell?_setCell_other _ _ _ _ (by simp)]; assumption))
                    | go_keep
              case goon17 =>
               clear hK K
               try simp only [Act.put, List.setIfInBounds_toArray, List.set_cons_zero, List.set_cons_succ]
               refine wpAnyH_take (i := 11) (oi := ?oi18) (v := ?v18) ?ho18 ?ka18 ?kb18 ?kc18 (fun _ _ _ h => h) (Or.inl ⟨?wn18, ?hy18⟩) (by assumption) ?rest18
               case ho18 => (simp only [List.getElem?_toArray, List.getElem?_cons_succ, List.getElem?_cons_zero]; rfl)
               case ka18 => kernel_rfl
               case kb18 => kernel_rfl
               case kc18 => kernel_rfl
               case wn18 => rfl
               case hy18 => (intro w hSw; (try dsimp only at hSw); first | (go_simp; done) | (go_simp; with_reducible rfl))
               case rest18 =>
                try simp only [Act.put, List.setIfInBounds_toArray, List.set_cons_zero, List.set_cons_succ]
                refine wpAnyH_ready (rs := [1, 12]) (by kernel_rfl) (by simp) ?_
                refine AllReadyH.cons (o := ?o19) ?ho19 (fun K hK => ?st19) ?more19
                case ho19 => (simp only [List.getElem?_toArray, List.getElem?_cons_succ, List.getElem?_cons_zero]; rfl)
                case st19 =>
                 go_simp
                 refine hK.out _ _ ?hS19 (fun hHeld => ?goon19)
                 case hS19 =>
                  try dsimp only
                  first
                       | (refine ⟨?_, ?_, ?_, ?_⟩ <;> assumption)
                       | (refine ⟨?_, ?_, ?_, ?_⟩ <;> (rw [World.cell?_setCell_other _ _ _ _ (by simp)]; assumption))
                       | go_keep
                 case goon19 =>
                  clear hK K
                  try simp only [Act.put, List.setIfInBounds_toArray, List.set_cons_zero, List.set_cons_succ]
                  refine wpAnyH_ready (rs := [12]) (by kernel_rfl) (by simp) ?_
                  refine AllReadyH.cons (o := ?o20) ?ho20 (fun K hK => ?st20) ?more20
                  case ho20 => (simp only [List.getElem?_toArray, List.getElem?_cons_succ, List.getElem?_cons_zero]; rfl)
                  case st20 =>
                   go_simp
                   refine hK.out _ _ ?hS20 (fun hHeld => ?goon20)
                   case hS20 =>
                    try dsimp only
                    first
                         | (refine ⟨?_, ?_, ?_, ?_⟩ <;> assumption)
                         | (refine ⟨?_, ?_, ?_, ?_⟩ <;> (rw [World.cell?_setCell_other _ _ _ _ (by simp)]; assumption))
                         | go_keep
                   case goon20 =>
                    clear hK K
                    try simp only [Act.put, List.setIfInBounds_toArray, List.set_cons_zero, List.set_cons_succ]
                    refine wpAnyH_ready (rs := [13]) (by kernel_rfl) (by simp) ?_
                    refine AllReadyH.cons (o := ?o21) ?ho21 (fun K hK => ?st21) ?more21
                    case ho21 => (simp only [List.getElem?_toArray, List.getElem?_cons_succ, List.getElem?_cons_zero]; rfl)
                    case st21 =>
                     first
                          | (go_at_call 94; refine Calls.mono HIX.out ?_; rintro e w9 ⟨rfl, rfl⟩)
                          | (refine step_append_lies _ (by rfl) _ _ _ (by rfl) W 68 ie _ 3 24 Tryz.underlying25 hie hie0 hie1 hie2 rfl (by omega) (.slice ae k ce) k (Es.flatMap encE) (by rfl) HE2.out ⟨sz + 1, 0, none⟩ 1 1 [.int .i64 x.src, .int .i64 m, .int .i64 x.dst] (by rfl) (by rfl) (World.news_of_block (cs := #[.int .i64 x.src, .int .i64 m, .int .i64 x.dst]) (t := 68) (fr := (0, 0)) hnew) (by simp [Value.oneCell']) (by omega) (by first | omega | (simp [maxLen]; omega)) (by first | omega | (simp; omega)) (by first | omega | (simp; omega)) (sz + 2) (by first | omega | (simp; omega)) ?_; intro gg cap w5 hown5 hgrow5 hat5 hlt5; have z0 := (hgrow5.cell_far ⟨sz, 0, none⟩ (by simp; omega) n0).trans R0; have z1 := (hgrow5.cell_far ⟨sz, 1, none⟩ (by simp; omega) n0).trans R1; have z2 := (hgrow5.cell_far ⟨sz, 2, none⟩ (by simp; omega) n0).trans R2; have z3 := (hgrow5.cell_far ⟨o, 2, none⟩ (by simp; omega) n3).trans R3; have z5 := (hgrow5.cell_far ⟨o, 3, none⟩ (by simp; omega) n3).trans R5; have z6 := (hgrow5.frozen_far ⟨o, 3, none⟩ (by simp; omega) n3).trans R6)
                     refine hK.out _ _ ?hS21 (fun hHeld => ?goon21)
                     case hS21 =>
                      try dsimp only
                      first
                           | (refine ⟨?_, ?_, ?_, ?_⟩ <;> assumption)
                           | (refine ⟨?_, ?_, ?_, ?_⟩ <;> (rw [World.cell?_setCell_other _ _ _ _ (by simp)]; assumption))
                           | go_keep
                     case goon21 =>
                      clear hK K
                      try simp only [Act.put, List.setIfInBounds_toArray, List.set_cons_zero, List.set_cons_succ]
                      refine wpAnyH_take (i := 14) (oi := ?oi22) (v := ?v22) ?ho22 ?ka22 ?kb22 ?kc22 (fun _ _ _ h => h) (Or.inl ⟨?wn22, ?hy22⟩) (by assumption) ?rest22
                      case ho22 => (simp only [List.getElem?_toArray, List.getElem?_cons_succ, List.getElem?_cons_zero]; rfl)
                      case ka22 => kernel_rfl
                      case kb22 => kernel_rfl
                      case kc22 => kernel_rfl
                      case wn22 => rfl
                      case hy22 => (intro w hSw; (try dsimp only at hSw); first | (go_simp; done) | (go_simp; with_reducible rfl))
                      case rest22 =>
                       try simp only [Act.put, List.setIfInBounds_toArray, List.set_cons_zero, List.set_cons_succ]
                       refine wpAnyH_ready (rs := [15]) (by kernel_rfl) (by simp) ?_
                       refine AllReadyH.cons (o := ?o23) ?ho23 (fun K hK => ?st23) ?more23
                       case ho23 => (simp only [List.getElem?_toArray, List.getElem?_cons_succ, List.getElem?_cons_zero]; rfl)
                       case st23 =>
                        go_simp
                        refine hK.out _ _ ?hS23 (fun hHeld => ?goon23)
                        case hS23 =>
                         try dsimp only
                         first
                              | (refine ⟨?_, ?_, ?_, ?_⟩ <;> assumption)
                              | (refine ⟨?_, ?_, ?_, ?_⟩ <;> (rw [World.cell?_setCell_other _ _ _ _ (by simp)]; assumption))
                              | go_keep
                        case goon23 =>
                         clear hK K
                         try simp only [Act.put, List.setIfInBounds_toArray, List.set_cons_zero, List.set_cons_succ]
                         refine wpAnyH_done (by kernel_rfl) ?_ _
                         refine NoPanic.normal ?_
                         obtain ⟨ev', hev'⟩ : ∃ ev', ev' = Value.slice (some ⟨gg, 0, none⟩) (k + 1) cap := ⟨_, rfl⟩
                         rw [← hev'] at hown5 ⊢
                         have HP := Lib.hid (LtsSt.push (x := edgeIn L x) HS.out (by omega) (by rw [← HSZ.out]; exact hsz) (by omega) HBT.out hgrow5 (by rw [HES.out, HEK.out]; exact hown5))
                         clear hown5 hgrow5 hat5 hlt5 z0 z1 z2 z3 z5 z6 P0 P1 P2 P3 P5 R0 R1 R2 R3 R5 R6 hnew hev'
                         go_wp2
                         go_roundw
                         case rel => exact ⟨k + 1, ev', by go_num, by omega, by rw [HTK.out]; exact HP.out⟩
                         case measure => simp [intOf]; omega
                       exact AllReadyH.nil
                    exact AllReadyH.nil
                  exact AllReadyH.nil
                refine AllReadyH.cons (o := ?o24) ?ho24 (fun K hK => ?st24) ?more24
                case ho24 => (simp only [List.getElem?_toArray, List.getElem?_cons_succ, List.getElem?_cons_zero]; rfl)
                case st24 =>
                 go_simp
                 refine hK.out _ _ ?hS24 (fun hHeld => ?goon24)
                 case hS24 =>
                  try dsimp only
                  first
                       | (refine ⟨?_, ?_, ?_, ?_⟩ <;> assumption)
                       | (refine ⟨?_, ?_, ?_, ?_⟩ <;> (rw [World.cell?_setCell_other _ _ _ _ (by simp)]; assumption))
                       | go_keep
                 case goon24 =>
                  clear hK K
                  try simp only [Act.put, List.setIfInBounds_toArray, List.set_cons_zero, List.set_cons_succ]
                  refine wpAnyH_ready (rs := [1]) (by kernel_rfl) (by simp) ?_
                  refine AllReadyH.cons (o := ?o25) ?ho25 (fun K hK => ?st25) ?more25
                  case ho25 => (simp only [List.getElem?_toArray, List.getElem?_cons_succ, List.getElem?_cons_zero]; rfl)
                  case st25 =>
                   go_simp
                   refine hK.out _ _ ?hS25 (fun hHeld => ?goon25)
                   case hS25 =>
                    try dsimp only
                    first
                         | (refine ⟨?_, ?_, ?_, ?_⟩ <;> assumption)
                         | (refine ⟨?_, ?_, ?_, ?_⟩ <;> (rw [World.cell?_setCell_other _ _ _ _ (by simp)]; assumption))
                         | go_keep
                   case goon25 =>
                    clear hK K
                    try simp only [Act.put, List.setIfInBounds_toArray, List.set_cons_zero, List.set_cons_succ]
                    refine wpAnyH_ready (rs := [13]) (by kernel_rfl) (by simp) ?_
                    refine AllReadyH.cons (o := ?o26) ?ho26 (fun K hK => ?st26) ?more26
                    case ho26 => (simp only [List.getElem?_toArray, List.getElem?_cons_succ, List.getElem?_cons_zero]; rfl)
                    case st26 =>
                     first
                          | (go_at_call 94; refine Calls.mono HIX.out ?_; rintro e w9 ⟨rfl, rfl⟩)
                          | (refine step_append_lies _ (by rfl) _ _ _ (by rfl) W 68 ie _ 3 24 Tryz.underlying25 hie hie0 hie1 hie2 rfl (by omega) (.slice ae k ce) k (Es.flatMap encE) (by rfl) HE2.out ⟨sz + 1, 0, none⟩ 1 1 [.int .i64 x.src, .int .i64 m, .int .i64 x.dst] (by rfl) (by rfl) (World.news_of_block (cs := #[.int .i64 x.src, .int .i64 m, .int .i64 x.dst]) (t := 68) (fr := (0, 0)) hnew) (by simp [Value.oneCell']) (by omega) (by first | omega | (simp [maxLen]; omega)) (by first | omega | (simp; omega)) (by first | omega | (simp; omega)) (sz + 2) (by first | omega | (simp; omega)) ?_; intro gg cap w5 hown5 hgrow5 hat5 hlt5; have z0 := (hgrow5.cell_far ⟨sz, 0, none⟩ (by simp; omega) n0).trans R0; have z1 := (hgrow5.cell_far ⟨sz, 1, none⟩ (by simp; omega) n0).trans R1; have z2 := (hgrow5.cell_far ⟨sz, 2, none⟩ (by simp; omega) n0).trans R2; have z3 := (hgrow5.cell_far ⟨o, 2, none⟩ (by simp; omega) n3).trans R3; have z5 := (hgrow5.cell_far ⟨o, 3, none⟩ (by simp; omega) n3).trans R5; have z6 := (hgrow5.frozen_far ⟨o, 3, none⟩ (by simp; omega) n3).trans R6)
                     refine hK.out _ _ ?hS26 (fun hHeld => ?goon26)
                     case hS26 =>
                      try dsimp only
                      first
                           | (refine ⟨?_, ?_, ?_, ?_⟩ <;> assumption)
                           | (refine ⟨?_, ?_, ?_, ?_⟩ <;> (rw [World.cell?_setCell_other _ _ _ _ (by simp)]; assumption))
                           | go_keep
                     case goon26 =>
                      clear hK K
                      try simp only [Act.put, List.setIfInBounds_toArray, List.set_cons_zero, List.set_cons_succ]
                      refine wpAnyH_take (i := 14) (oi := ?oi27) (v := ?v27) ?ho27 ?ka27 ?kb27 ?kc27 (fun _ _ _ h => h) (Or.inl ⟨?wn27, ?hy27⟩) (by assumption) ?rest27
                      case ho27 => (simp only [List.getElem?_toArray, List.getElem?_cons_succ, List.getElem?_cons_zero]; rfl)
                      case ka27 => kernel_rfl
                      case kb27 => kernel_rfl
                      case kc27 => kernel_rfl
                      case wn27 => rfl
                      case hy27 => (intro w hSw; (try dsimp only at hSw); first | (go_simp; done) | (go_simp; with_reducible rfl))
                      case rest27 =>
                       try simp only [Act.put, List.setIfInBounds_toArray, List.set_cons_zero, List.set_cons_succ]
                       refine wpAnyH_ready (rs := [15]) (by kernel_rfl) (by simp) ?_
                       refine AllReadyH.cons (o := ?o28) ?ho28 (fun K hK => ?st28) ?more28
                       case ho28 => (simp only [List.getElem?_toArray, List.getElem?_cons_succ, List.getElem?_cons_zero]; rfl)
                       case st28 =>
                        go_simp
                        refine hK.out _ _ ?hS28 (fun hHeld => ?goon28)
                        case hS28 =>
                         try dsimp only
                         first
                              | (refine ⟨?_, ?_, ?_, ?_⟩ <;> assumption)
                              | (refine ⟨?_, ?_, ?_, ?_⟩ <;> (rw [World.cell?_setCell_other _ _ _ _ (by simp)]; assumption))
                              | go_keep
                        case goon28 =>
                         clear hK K
                         try simp only [Act.put, List.setIfInBounds_toArray, List.set_cons_zero, List.set_cons_succ]
                         refine wpAnyH_done (by kernel_rfl) ?_ _
                         refine NoPanic.normal ?_
                         obtain ⟨ev', hev'⟩ : ∃ ev', ev' = Value.slice (some ⟨gg, 0, none⟩) (k + 1) cap := ⟨_, rfl⟩
                         rw [← hev'] at hown5 ⊢
                         have HP := Lib.hid (LtsSt.push (x := edgeIn L x) HS.out (by omega) (by rw [← HSZ.out]; exact hsz) (by omega) HBT.out hgrow5 (by rw [HES.out, HEK.out]; exact hown5))
                         clear hown5 hgrow5 hat5 hlt5 z0 z1 z2 z3 z5 z6 P0 P1 P2 P3 P5 R0 R1 R2 R3 R5 R6 hnew hev'
                         go_wp2
                         go_roundw
                         case rel => exact ⟨k + 1, ev', by go_num, by omega, by rw [HTK.out]; exact HP.out⟩
                         case measure => simp [intOf]; omega
                       exact AllReadyH.nil
                    exact AllReadyH.nil
                  exact AllReadyH.nil
                exact AllReadyH.nil
             exact AllReadyH.nil
  ·have hkN : k = NX := by omega
   obtain ⟨E, hEE⟩ : ∃ E, E = xs.map (edgeIn L) := ⟨_, rfl⟩
   have hes : (xs.take k).map (edgeIn L) = E := by rw [hkN, HNX.out, List.take_length, hEE]
   rw [hes] at hst HS
   rw [← hEE] at HRE
   have HEE := Lib.hid hEE
   have hel : E.length ≤ 1048576 := by rw [hEE, List.length_map, ← HNX.out]; omega
   have HSO := Lib.hid (SortE_own W (.slice ae E.length ce) E wr hst.edges HRE.out hel)
   have x3 := hst.out.cell 3 rfl
   have HEL := Lib.hid hel
   clear hst hes hEE hel
   go_wp2_with fail
   refine Calls.mono HSO.out ?_
   rintro e6 w6 ⟨rfl, hb6⟩
   have HX6 := Lib.hid (HS.out.out.below hb6)
   have HR6 := Lib.hid (HS.out.res.below hb6)
   have HL6 := Lib.hid (owns_below HS.out.labels hb6)
   have HE6 := Lib.hid (owns_below HS.out.edges hb6)
   have HB6 := Lib.hid (HS.out.below.trans (hb6.mono hsz))
   have HCO := Lib.hid (CompactE_own W (.slice ae E.length ce) E w6 HE6.out HRE.out HEL.out)
   have x6 := HX6.out.cell 3 rfl
   have hs6 : W ≤ w6.heap.size := Nat.le_trans hsz hb6.size
   clear hb6 x3 HSO HS
   go_wp2_with fail
   refine Calls.mono HCO.out ?_
   rintro e7 w7 ⟨rfl, hb7⟩
   have HX7 := Lib.hid (HX6.out.below hb7)
   have HR7 := Lib.hid (HR6.out.below hb7)
   have HL7 := Lib.hid (owns_below HL6.out hb7)
   have HE7 := Lib.hid (owns_below HE6.out hb7)
   have HB7 := Lib.hid (HB6.out.trans (hb7.mono hs6))
   clear hb7 HCO x6 HX6 HR6 HL6 HE6 HB6
   have o0 := HX7.out.cell 0 rfl
   have o1 := HX7.out.cell 1 rfl
   have o2 := HX7.out.cell 2 rfl
   have o3 := HX7.out.cell 3 rfl
   have z7 := HX7.out.frozen 3
   have r0 := HR7.out.cell 0 rfl
   have r1 := HR7.out.cell 1 rfl
   have r2 := HR7.out.cell 2 rfl
   have r3 := HR7.out.cell 3 rfl
   have s0 := HR7.out.frozen 0
   have s1 := HR7.out.frozen 1
   have s2 := HR7.out.frozen 2
   have s3 := HR7.out.frozen 3
   have hneW : W ≠ o := by omega
   have hneO : o ≠ W := by omega
   obtain ⟨EL, hEL⟩ : ∃ EL, EL = E.length := ⟨_, rfl⟩
   rw [← hEL] at o3 HX7 HE7 ⊢
   have HELL := Lib.hid hEL
   clear hEL
   go_wp2
   have hR0 := HR7.out.setOther ⟨o, 3, none⟩ (.slice ae EL ce) hneW
   have hR1 := hR0.set 0 (.int .i64 n)
   have hR2 := hR1.set 1 (.int .i64 i)
   have hR3 := hR2.set 2 (.slice a4 LL c4)
   have hWo : W ≤ o := by omega
   refine bodyPost_ret (lts_results rfl (hR3.set 3 (.slice ae EL ce))) rfl ?_
   rw [← HEE.out]
   refine ⟨_, _, rfl, ?_, ?_, ?_⟩
   ·rw [← HW.out]
    exact ((((HB7.out.setCell hWo _).setCell (Nat.le_refl _) _).setCell (Nat.le_refl _) _).setCell (Nat.le_refl _) _).setCell (Nat.le_refl _) _
   ·rw [← HW.out]
    have h1 := HL7.out
    exact own_sets (own_sets (own_sets (own_sets (own_sets h1 HX7.out (by decide) 3 _) hR0 (by decide) 0 _) hR1 (by decide) 1 _) hR2 (by decide) 2 _) hR3 (by decide) 3 _
   ·rw [← HW.out, ← HELL.out]
    have h1 := HE7.out
    exact own_sets (own_sets (own_sets (own_sets (own_sets h1 HX7.out (by decide) 3 _) hR0 (by decide) 0 _) hR1 (by decide) 1 _) hR2 (by decide) 2 _) hR3 (by decide) 3 _

end Go.Proofs.YthofaoabgbgbdaaGreatDoor
