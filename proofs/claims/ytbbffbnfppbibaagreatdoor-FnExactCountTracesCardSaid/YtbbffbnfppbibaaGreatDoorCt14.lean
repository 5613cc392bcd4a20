/-
  What the implementation's lts computes: labels sorted and each once, edges by the labels' places, where these stand in order.
  The edges found stand in ascending order of where they begin and of their labels.
  Plain laws for lts within determinize: the labels in use, the edges by them, that they lead back.
-/
import Derived.Test.YtbbffbnfppbibaaGreatDoorCt13
import Derived.Test.YtbbffbnfppbibaaGreatDoorCt11
import Derived.Test.YtbbffbnfppbibaaGreatDoorCt9
import Derived.Laws.AppendOwnNone
import Derived.Deep.RegionHeld3
import Derived.Test.YtbbffbnfppbibaaGreatDoorCt10
import Derived.Test.YtbbffbnfppbibaaGreatDoorCt5
namespace Go.Proofs.YtbbffbnfppbibaaGreatDoor
open Go Go.RowKit

theorem blk_own_neL {w : World} {b : Nat} {cs : List Value} {t : TypeId} (h : Blk w b cs t) {base e size n : Nat} {v : Value} {xs : List Value} (ho : w.ownsRow base e size v n xs) (he : e ≠ t) : some b ≠ v.ownBlock := by
  rcases own_type_ne ho (show w.heap[b]? = some (.cells cs.toArray t (0, 0)) from h) he with h | h
  · rw [h]; simp
  · exact fun e => h e.symm
/-- A list of texts that is appended: nil, or cells that lie somewhere. -/
def SrcS (w : World) (v : Value) (xs : List ByteArray) : Prop :=
  (v = .slice none 0 0 ∧ xs = []) ∨ ∃ b o c, v = .slice (some ⟨b, o, none⟩) xs.length c ∧ b < w.heap.size ∧ ∀ i (h : i < xs.length), w.cell? ⟨b, o + i, none⟩ = some (.string xs[i])
theorem SrcS.of_slice {lo : Nat} {w : World} {v : Value} {xs : List ByteArray} (h : SliceK 1 encS lo w v xs) (hn : 0 < xs.length) : SrcS w v xs := by
  obtain ⟨a, c, rfl, -, -, hrow⟩ := h
  rcases hrow with h | ⟨b, o, rfl, -, hb, hc⟩
  · omega
  · exact .inr ⟨b, o, c, rfl, hb, fun i hi => by have := hc i hi 0 (by omega); simpa [encS] using this⟩
theorem SrcS.of_own {base e : Nat} {w : World} {v : Value} {xs : List ByteArray} (h : w.ownsRow base e 1 v xs.length (xs.map .string)) : SrcS w v xs := by
  rcases h.2 with ⟨rfl, h0⟩ | ⟨g, cap, cur, rfl, -, hg, -⟩
  · exact .inl ⟨rfl, List.eq_nil_of_length_eq_zero h0⟩
  · refine .inr ⟨g, 0, cap, rfl, (Array.getElem?_eq_some_iff.1 hg).1, fun i hi => ?_⟩
    have := h.cellAt i (by omega)
    rw [Nat.zero_add, this, List.getElem?_map, List.getElem?_eq_getElem hi]
    rfl
theorem SrcS.below {w w' : World} {v : Value} {xs : List ByteArray} (h : SrcS w v xs) (hb : Below w.heap.size w w') : SrcS w' v xs := by
  rcases h with h | ⟨b, o, c, h1, h2, h3⟩
  · exact .inl h
  · exact .inr ⟨b, o, c, h1, Nat.lt_of_lt_of_le h2 hb.size, fun i hi => keeps hb h2 (h3 i hi)⟩

theorem append_src {P : Program} {ops : Array Oper} {rest : List Oper} {o : Oper} {a : Act} {w : World} {Q : Exit → Act → World → Prop} (hgd : o.guard = none) (s x : Operand) (t : TypeId)
    (ho : o.op = .call { callee := .builtin .append, args := #[s, x], argTypes := #[t, t] })
    (base : Nat) (e : TypeId) (i : TypeInfo) (z : Value) (bytes : Nat) (ht : P.underlying t = some (.slice e)) (hi : P.info? e = some i) (hz : i.zero = some z)
    (hsize : i.size = 1) (hby : i.bytes = bytes) (hzs : z.cells.size = 1) (v : Value) (n : Nat) (xs : List Value) (hs : a.eval s = v) (hown : w.ownsRow base e 1 v n xs)
    (ls : List ByteArray) (hsrc : SrcS w (a.eval x) ls) (h63 : n + ls.length ≤ maxLen) (hbytes : (n + ls.length) * bytes ≤ 140737488355328) (hbase : base ≤ w.heap.size)
    (h : ∀ v' w', w'.ownsRow base e 1 v' (n + ls.length) (xs ++ ls.map .string) → w.grownBy w' v.ownBlock → wpList P ops Q rest (a.put o.dst v') w') :
    wpList P ops Q (o :: rest) a w := by
  rcases hsrc with ⟨hx, rfl⟩ | ⟨b, off, c, hx, hb, hc⟩
  · refine wpList_append_own_none hgd s x t ho base e i 1 ht hi v n xs hs hown hx (h v w ?_ (grown_refl _ _))
    simpa using hown
  · refine wpList_append_own_at w hgd s x t ho base e i z 1 bytes ht hi hz hsize hby hzs (by omega) v n xs hs hown ⟨b, off, none⟩ ls.length c (ls.map .string) hx (by simp) ?_ ?_ h63 hbytes hbase (fun v' w' h1 h2 _ _ => h v' w' h1 h2)
    · intro j u hu
      rw [List.getElem?_map, Option.map_eq_some_iff] at hu
      obtain ⟨y, hy, rfl⟩ := hu
      obtain ⟨hj, rfl⟩ := List.getElem?_eq_some_iff.1 hy
      have := hc j hj
      by_cases h0 : j = 0
      · subst h0; simpa [Addr.add] using this
      · simpa [Addr.add, h0] using this
    · intro u hu
      obtain ⟨y, -, rfl⟩ := List.mem_map.1 hu
      rfl

/-- The first place of a text. -/
theorem IndexL_any (lo : Nat) (v : Value) (x : ByteArray) (xs : List ByteArray) (k : Nat) (w : World) (hv : SliceK 1 encS lo w v xs) (hk : k < xs.length) (he : xs[k].toList = x.toList) (hf : ∀ j (h : j < xs.length), j < k → (x.toList == xs[j].toList) = false) :
    Calls Tryz.prog 108 #[v, .string x] w fun e w' => e = .returned (.int .i64 k) ∧ w = w' := by
  obtain ⟨a, c, rfl, hcn, hcc, hrow⟩ := hv
  have HF := Lib.hid hf
  have HE := Lib.hid he
  clear hf he
  go_enter Tryz.func108, Tryz.ntmps108
  go_wp2_with fail
  go_loop [8] (fun i => ∃ j : Nat, j ≤ k ∧ i = .int .i64 j) (fun i => xs.length - (intOf i).toNat)
  case atStart => exact ⟨0, Nat.zero_le _, rfl⟩
  case round =>
    obtain ⟨j, hj, rfl⟩ := hrel
    have hlt : j < xs.length := by omega
    obtain ⟨b1, o1, rfl, -, hbs, c1⟩ := hrow.one hlt
    simp only [encS, List.getElem?_cons_zero] at c1
    clear hrow
    by_cases hjk : j = k
    · have h0 : (x.toList == xs[j].toList) = true := by subst hjk; rw [HE.out]; simp
      have HJ := Lib.hid hjk
      clear hjk
      go_wp2_with fail
      go_ret
      exact ⟨ret_int (by rw [HJ.out]), rfl⟩
    · have h0 := HF.out j hlt (by omega)
      have hj2 : j + 1 ≤ k := by omega
      go_wp2_with fail
      go_round
      case rel => exact ⟨j + 1, hj2, by go_num⟩
      case measure => simp [intOf]; omega

/-- Where a text stands in a list. -/
def idxL (L : List ByteArray) (l : ByteArray) : Nat := L.findIdx fun x => x.toList == l.toList
theorem toList_inj {a b : ByteArray} (h : a.toList = b.toList) : a = b := data_inj (by rw [← Lib.toList_data, ← Lib.toList_data, h])
theorem idxL_get {L : List ByteArray} {l : ByteArray} (h : l ∈ L) : ∃ hk : idxL L l < L.length, L[idxL L l] = l ∧ ∀ j (h : j < L.length), j < idxL L l → (l.toList == L[j].toList) = false := by
  have h1 : idxL L l < L.length := by
    unfold idxL
    rw [List.findIdx_lt_length]
    exact ⟨l, h, by rw [beq_iff_eq]⟩
  refine ⟨h1, ?_, fun j hj hlt => ?_⟩
  · have := List.findIdx_getElem (p := fun x : ByteArray => x.toList == l.toList) (xs := L) (w := h1)
    rw [beq_iff_eq] at this
    exact toList_inj this
  · have := List.not_of_lt_findIdx (p := fun x : ByteArray => x.toList == l.toList) (xs := L) hlt
    have h2 : (L[j].toList == l.toList) = false := by simpa using this
    rw [beq_eq_false_iff_ne] at h2 ⊢
    exact fun e => h2 e.symm
def edgeIn (L : List ByteArray) (a : Arc) : Edge := ⟨a.src, (idxL L a.lab : Nat), a.dst⟩
def RetLts (n i : Int) (L : List ByteArray) (E : List Edge) (w : World) (e : Ending) (w' : World) : Prop :=
  ∃ lv ev, e = .returned (.agg #[.int .i64 n, .int .i64 i, lv, ev]) ∧ Below w.heap.size w w' ∧ w'.ownsRow w.heap.size 9 1 lv L.length (L.map .string) ∧ w'.ownsRow w.heap.size 62 3 ev E.length (E.flatMap encE)

theorem lts_results {w : World} {b : Nat} {v0 v1 v2 v3 : Value} {tmps : Array Value} (hc : tmps.getD 8 undef = .pointer (some ⟨b, 0, none⟩)) (hb : Blk w b [v0, v1, v2, v3] 31) :
    (results Tryz.f80 tmps).run Tryz.prog w = .ok (.agg #[v0, v1, v2, v3]) w := by
  have h0 := hb.cell 0 rfl
  have h1 := hb.cell 1 rfl
  have h2 := hb.cell 2 rfl
  have h3 := hb.cell 3 rfl
  simp only [Array.getD_eq_getD_getElem?] at hc
  simp [results, Tryz.results80, go_sem, hc, h0, h1, h2, h3, Result.andThen]

theorem info_strL : (Tryz.prog.info? 9).map (fun i => (i.zero, i.size, i.bytes)) = some (some (.string ⟨#[]⟩), 1, 16) := by kernel_rfl
theorem info_edgeL : (Tryz.prog.info? 62).map (fun i => (i.zero, i.size, i.bytes)) = some (some (.agg #[.int .i64 0, .int .i64 0, .int .i64 0]), 3, 24) := by kernel_rfl

/-- Between the steps of lts: the result's cell, the system under way, its labels, its edges. -/
structure LtsSt (W c0 o : Nat) (n i : Int) (Ls : List ByteArray) (Es : List Edge) (lv ev : Value) (w0 w : World) : Prop where
  res : Blk w c0 [.int .i64 0, .int .i64 0, .slice none 0 0, .slice none 0 0] 31
  out : Blk w o [.int .i64 n, .int .i64 i, lv, ev] 31
  labels : w.ownsRow W 9 1 lv Ls.length (Ls.map .string)
  edges : w.ownsRow W 62 3 ev Es.length (Es.flatMap encE)
  below : Below W w0 w

theorem own_sets {w : World} {base e size n : Nat} {v : Value} {xs : List Value} (h : w.ownsRow base e size v n xs) {b : Nat} {cs : List Value} {t : TypeId} (hb : Blk w b cs t) (he : e ≠ t) (i : Nat) (u : Value) : (w.setCell ⟨b, i, none⟩ u).ownsRow base e size v n xs :=
  h.kept (grown_setCell w ⟨b, i, none⟩ u) (own_type_ne h hb he)
theorem LtsSt.push {W c0 o : Nat} {n i : Int} {Ls : List ByteArray} {Es : List Edge} {x : Edge} {lv ev ev' : Value} {w0 w w2 w5 : World} (h : LtsSt W c0 o n i Ls Es lv ev w0 w) (hne : c0 ≠ o) (hW : W ≤ w.heap.size) (ho : W ≤ o) (hb : Below w.heap.size w w2) (hg : w2.grownBy w5 ev.ownBlock)
    (h5 : w5.ownsRow W 62 3 ev' (Es.length + 1) (Es.flatMap encE ++ encE x)) : LtsSt W c0 o n i Ls (Es ++ [x]) lv ev' w0 (w5.setCell ⟨o, 3, none⟩ ev') := by
  have E2 := owns_below h.edges hb
  have R2 := h.res.below hb
  have X2 := h.out.below hb
  have L2 := owns_below h.labels hb
  have R5 : Blk w5 c0 _ _ := (hg.block c0 R2.lt (blk_own_neL R2 E2 (by decide))).trans R2
  have X5 : Blk w5 o _ _ := (hg.block o X2.lt (blk_own_neL X2 E2 (by decide))).trans X2
  have L5 := L2.kept hg (own_types L2 E2 (by decide))
  have hs := grown_setCell w5 ⟨o, 3, none⟩ ev'
  have hW2 : W ≤ w2.heap.size := Nat.le_trans hW hb.size
  refine ⟨R5.setOther _ _ hne, X5.set 3 ev', L5.kept hs (own_type_ne L5 X5 (by decide)), ?_, ((h.below.trans (hb.mono hW)).grown hg hW2 (fun b e => (E2.lt b e).1)).setCell ho _⟩
  have := h5.kept hs (own_type_ne h5 X5 (by decide))
  simpa using this

set_option maxRecDepth 100000 in
set_option maxHeartbeats 4000000 in
theorem lts_any (lo2 : Nat) (n i : Int) (ls : List ByteArray) (xs : List Arc) (lv av : Value) (w : World) (hl : SrcS w lv ls) (ha : SliceK 3 encC lo2 w av xs) (hln : ls.length ≤ 1000) (han : xs.length ≤ 1000) (L : List ByteArray) (hL : labSet (tauT :: ls) = L)
    (hmem : ∀ a ∈ xs, a.lab ∈ L) (hE : RiseE (xs.map (edgeIn L))) :
    Calls Tryz.prog 80 #[.int .i64 n, .int .i64 i, lv, av] w (RetLts n i L (xs.map (edgeIn L)) w) := by
  have HSRC := Lib.hid hl
  have HMEM := Lib.hid hmem
  have HRE := Lib.hid hE
  have HLL := Lib.hid hL
  obtain ⟨aa, ca, rfl, hca, -, hrow⟩ := ha
  have HRW := Lib.hid hrow
  obtain ⟨i0, hi, hz0, hz1, hz2⟩ := info_parts info_strL
  obtain ⟨W, hW⟩ : ∃ W, W = w.heap.size := ⟨_, rfl⟩
  obtain ⟨wA, hwA⟩ : ∃ wA, wA = (w.alloc (.cells #[.int .i64 0, .int .i64 0, .slice none 0 0, .slice none 0 0] 31)).alloc (.cells #[.string ⟨#[116, 97, 117]⟩] 9) := ⟨_, rfl⟩
  have hsA : wA.heap.size = W + 2 := by rw [hwA, hW]; simp
  have HBA : Hid (Below W w wA) := by unfold Hid; rw [hwA, hW]; exact ((Below.refl _ _).alloc (Nat.le_refl _) _).alloc (by simp) _
  have HRA : Hid (Blk wA W [.int .i64 0, .int .i64 0, .slice none 0 0, .slice none 0 0] 31) := by
    unfold Hid
    rw [hwA, hW]
    exact (Blk.new w _ _).alloc _
  have HTA : Hid (wA.ownsRow W 9 1 (.slice (some ⟨W + 1, 0, none⟩) 1 1) 1 [.string ⟨#[116, 97, 117]⟩]) := by
    unfold Hid
    rw [hwA, hW]
    have := World.ownsRow_lit (base := w.heap.size) (e := 9) (size := 1) (w.alloc (.cells #[.int .i64 0, .int .i64 0, .slice none 0 0, .slice none 0 0] 31)) #[.string ⟨#[116, 97, 117]⟩] 1 (by simp) (by decide) rfl
    rw [World.size_alloc] at this
    exact this
  have HSA : Hid (SrcS wA lv ls) := HSRC.out.below (by rw [hW] at HBA; exact HBA.out)
  have HWA := Lib.hid hwA
  have HW := Lib.hid hW
  clear hl hmem hE hL hwA hW hrow
  go_enter Tryz.func80, Tryz.ntmps80
  go_wp2_with (at_builtin; refine append_src rfl _ _ 22 rfl W 9 i0 (.string ⟨#[]⟩) 16 Tryz.underlying22 hi hz0 hz1 hz2 rfl _ 1 _ rfl (by rw [← HWA.out, ← HW.out]; exact HTA.out) ls (by rw [← HWA.out]; exact HSA.out) ?c3 ?c4 ?c5 ?_)
  case c3 => simp [maxLen]; omega
  case c4 => omega
  case c5 => rw [HW.out]; simp; omega
  intro v1 w1 ho1 hg1
  rw [← HWA.out] at hg1
  rw [← HW.out] at hg1 ⊢
  obtain ⟨a1, c1, rfl, -, -⟩ := owns_slice ho1
  have HB1 : Hid (Below W w w1) := HBA.out.grown hg1 (by omega) (fun b e => by cases e; show W ≤ W + 1; omega)
  have HR1 : Hid (Blk w1 W [.int .i64 0, .int .i64 0, .slice none 0 0, .slice none 0 0] 31) := (hg1.block W HRA.out.lt (by simp [Value.ownBlock])).trans HRA.out
  have hs1 : W + 2 ≤ w1.heap.size := by have := hg1.size; omega
  obtain ⟨NL, hNL⟩ : ∃ NL, NL = 1 + ls.length := ⟨_, rfl⟩
  rw [← hNL] at ho1 ⊢
  have HO1 : Hid (w1.ownsRow W 9 1 (.slice a1 NL c1) (tauT :: ls).length ((tauT :: ls).map .string)) := by
    unfold Hid
    rw [List.length_cons, Nat.add_comm ls.length 1, ← hNL]
    exact ho1
  obtain ⟨w2, hw2⟩ : ∃ w2, w2 = w1.alloc (.cells #[.int .i64 n, .int .i64 i, .slice a1 NL c1, .slice none 0 0] 31) := ⟨_, rfl⟩
  obtain ⟨o, ho⟩ : ∃ o, o = w1.heap.size := ⟨_, rfl⟩
  have hoW : W + 2 ≤ o := by omega
  have HX2 : Hid (Blk w2 o [.int .i64 n, .int .i64 i, .slice a1 NL c1, .slice none 0 0] 31) := by unfold Hid; rw [hw2, ho]; exact Blk.new w1 _ _
  have HR2 : Hid (Blk w2 W [.int .i64 0, .int .i64 0, .slice none 0 0, .slice none 0 0] 31) := by unfold Hid; rw [hw2]; exact HR1.out.alloc _
  have HO2 : Hid (w2.ownsRow W 9 1 (.slice a1 NL c1) (tauT :: ls).length ((tauT :: ls).map .string)) := by unfold Hid; rw [hw2]; exact HO1.out.alloc _
  have HB2 : Hid (Below W w w2) := by unfold Hid; rw [hw2]; exact HB1.out.alloc (by omega) _
  have HC := Lib.hid (SortL_own W (.slice a1 NL c1) (tauT :: ls) w2 HO2.out (by rw [List.length_cons]; omega))
  have HW2 := Lib.hid hw2
  have HOo := Lib.hid ho
  have hs2 : W ≤ w2.heap.size := by have := HX2.out.lt; omega
  clear ho1 hg1 hNL hw2 ho hsA HTA HRA HBA HSA HWA HO1 HR1 HB1 hi hz0 hz1 hz2 hs1
  go_wp2_with fail
  rw [← HW2.out, ← HOo.out]
  refine Calls.mono HC.out ?_
  rintro e3 w3 ⟨rfl, ho3, hg3⟩
  have HX3 : Hid (Blk w3 o _ _) := (hg3.block o HX2.out.lt (blk_own_neL HX2.out HO2.out (by decide))).trans HX2.out
  have HR3 : Hid (Blk w3 W _ _) := (hg3.block W HR2.out.lt (blk_own_neL HR2.out HO2.out (by decide))).trans HR2.out
  have HB3 := Lib.hid (HB2.out.grown hg3 hs2 (fun b e => (HO2.out.lt b e).1))
  have HO3 := Lib.hid ho3
  have HC3 := Lib.hid (CompactL_own W (.slice a1 NL c1) (tauT :: ls) w3 ho3)
  rw [HLL.out] at HC3
  have x2 := HX3.out.cell 2 rfl
  have hs3 : W ≤ w3.heap.size := Nat.le_trans hs2 hg3.size
  clear ho3 hg3 HC HX2 HR2 HO2 HB2
  go_wp2_with fail
  refine Calls.mono HC3.out ?_
  rintro e4 w4 ⟨v4, rfl, ho4, hg4⟩
  have HX4 : Hid (Blk w4 o _ _) := (hg4.block o HX3.out.lt (blk_own_neL HX3.out HO3.out (by decide))).trans HX3.out
  have HR4 : Hid (Blk w4 W _ _) := (hg4.block W HR3.out.lt (blk_own_neL HR3.out HO3.out (by decide))).trans HR3.out
  have HB4 := Lib.hid (HB3.out.grown hg4 hs3 (fun b e => (HO3.out.lt b e).1))
  have HO4 := Lib.hid ho4
  obtain ⟨a4, c4, rfl, -, -⟩ := owns_slice ho4
  have HST : Hid (LtsSt W W o n i L [] (.slice a4 L.length c4) (.slice none 0 0) w (w4.setCell ⟨o, 2, none⟩ (.slice a4 L.length c4))) := by
    have hs := grown_setCell w4 ⟨o, 2, none⟩ (.slice a4 L.length c4)
    exact ⟨HR4.out.setOther _ _ (by show W ≠ o; omega), HX4.out.set 2 _, HO4.out.kept hs (own_type_ne HO4.out HX4.out (by decide)), World.ownsRow_nil _ _ _ _, HB4.out.setCell (by show W ≤ o; omega) _⟩
  have y2 := HX4.out.cell 2 rfl
  have z2 := HX4.out.frozen 2
  clear ho4 hg4 HC3 HX3 HR3 HO3 HB3 x2
  obtain ⟨NX, hNX⟩ : ∃ NX, NX = xs.length := ⟨_, rfl⟩
  rw [← hNX] at han hca ⊢
  have HNX := Lib.hid hNX
  obtain ⟨LL, hLL⟩ : ∃ LL, LL = L.length := ⟨_, rfl⟩
  rw [← hLL] at HST ⊢
  have HLN := Lib.hid hLL
  clear hNX hLL
  go_wp2
  go_loopw [27] (fun v27 wr => ∃ (k : Nat) (ev : Value), v27 = .int .i64 k ∧ k ≤ NX ∧ LtsSt W W o n i L ((xs.take k).map (edgeIn L)) (.slice a4 LL c4) ev w wr) (fun v27 _ => NX - (intOf v27).toNat)
  case atStart => exact ⟨0, _, rfl, Nat.zero_le _, HST.out⟩
  case round =>
    clear HST HX4 HR4 HB4 HO4 y2 z2
    obtain ⟨k, ev, rfl, hk, hst⟩ := hrel
    have HS := Lib.hid hst
    have hsz : W ≤ wr.heap.size := by have := hst.out.lt; omega
    have how := hst.out.lt
    obtain ⟨ae, ce, rfl, -, -⟩ := owns_slice hst.edges
    by_cases hlt : k < NX
    · have hkx : k < xs.length := by rw [← HNX.out]; exact hlt
      have hbw : Below w.heap.size w wr := by have := hst.below; rw [HW.out] at this; exact this
      obtain ⟨ba, oa, rfl, -, hba, e1, e2, e3⟩ := (HRW.out.below hbw).arc hkx
      have hTK : (xs.take (k + 1)).map (edgeIn L) = (xs.take k).map (edgeIn L) ++ [edgeIn L xs[k]] := by rw [List.take_succ_eq_append_getElem hkx, List.map_append]; rfl
      have hxm := List.getElem_mem hkx
      have hes : ((xs.take k).map (edgeIn L)).length = k := by rw [List.length_map, List.length_take]; omega
      obtain ⟨x, hx⟩ : ∃ x, x = xs[k] := ⟨_, rfl⟩
      rw [← hx] at e1 e2 e3 hTK hxm
      obtain ⟨hk1, hk2, hk3⟩ := idxL_get (HMEM.out x hxm)
      obtain ⟨Es, hEs⟩ : ∃ Es, Es = (xs.take k).map (edgeIn L) := ⟨_, rfl⟩
      rw [← hEs] at HS hes hTK
      rw [← hEs, hes] at hst
      have HTK := Lib.hid hTK
      obtain ⟨m, hm⟩ : ∃ m, m = idxL L x.lab := ⟨_, rfl⟩
      have hek : encE (edgeIn L x) = [.int .i64 x.src, .int .i64 m, .int .i64 x.dst] := by rw [hm]; rfl
      have HEK := Lib.hid hek
      simp only [← hm] at hk1 hk2 hk3
      have HES := Lib.hid hes
      rw [hes] at HS
      obtain ⟨W1, hW1⟩ : ∃ W1, W1 = wr.alloc (.cells #[.int .i64 x.src, .string x.lab, .int .i64 x.dst] 129) := ⟨_, rfl⟩
      have hbW : Below wr.heap.size wr W1.drew := by rw [hW1]; exact ((Below.refl _ _).alloc (Nat.le_refl _) _).drew
      have hs1 : W1.heap.size = wr.heap.size + 1 := by rw [hW1]; simp
      have hv1 : Blk W1.drew wr.heap.size [.int .i64 x.src, .string x.lab, .int .i64 x.dst] 129 := by rw [hW1]; exact Blk.new wr _ _
      have P0 := hv1.cell 0 rfl
      have P1 := hv1.cell 1 rfl
      have P2 := hv1.cell 2 rfl
      have P3 := keeps hbW how (HS.out.out.cell 2 rfl)
      have P5 := keeps hbW how (HS.out.out.cell 3 rfl)
      have HIX := Lib.hid (IndexL_any W (.slice a4 LL c4) x.lab L m W1.drew (SliceK.of_owns (enc := encS) encS_len HLN.out (by rw [flat_encS]; have := owns_below HS.out.labels hbW; rw [← HLN.out] at this; exact this)) hk1 (by rw [hk2]) hk3)
      have hnew : ((W1.alloc (.cells #[.int .i64 x.src, .int .i64 m, .int .i64 x.dst] 62)).drew).heap[wr.heap.size + 1]? = some (.cells #[.int .i64 x.src, .int .i64 m, .int .i64 x.dst] 62 (0, 0)) := by
        have h1 := heap_alloc_new W1 (.cells #[.int .i64 x.src, .int .i64 m, .int .i64 x.dst] 62)
        rw [hs1] at h1
        exact h1
      have hA5 : Below W1.drew.heap.size W1.drew ((W1.alloc (.cells #[.int .i64 x.src, .int .i64 m, .int .i64 x.dst] 62)).drew) := ⟨rfl, rfl, rfl, by simp, fun k hk => Go.RowKit.Below.heap_alloc W1 _ k (by simpa using hk)⟩
      have hsd : W1.drew.heap.size = wr.heap.size + 1 := by simpa using hs1
      have R0 := keeps hA5 (by omega) P0
      have R1 := keeps hA5 (by omega) P1
      have R2 := keeps hA5 (by omega) P2
      have R3 := keeps hA5 (by omega) P3
      have R5 := keeps hA5 (by omega) P5
      have HBT := Lib.hid (hbW.trans (hA5.mono (by omega)))
      have HE2 : Hid (((W1.alloc (.cells #[.int .i64 x.src, .int .i64 m, .int .i64 x.dst] 62)).drew).ownsRow W 62 3 (.slice ae k ce) k (Es.flatMap encE)) := by
        unfold Hid
        have h9 := hst.edges
        rw [hes] at h9
        exact owns_below h9 HBT.out
      have R6 := (HS.out.out.below HBT.out).frozen 3
      have n0 : some wr.heap.size ≠ (Value.slice ae k ce).ownBlock := fun e => by have := (hst.edges.lt _ e.symm).2; omega
      have n3 : some o ≠ (Value.slice ae k ce).ownBlock := blk_own_neL hst.out hst.edges (by decide)
      have HW1 := Lib.hid hW1
      obtain ⟨sz, hsz1⟩ : ∃ sz, sz = wr.heap.size := ⟨_, rfl⟩
      rw [← hsz1] at P0 P1 P2 R0 R1 R2 hnew n0 hs1 how hsz
      have HSZ := Lib.hid hsz1
      obtain ⟨ie, hie, hie0, hie1, hie2⟩ := info_parts info_edgeL
      clear hk3 hk2 hk1
      clear hst hkx hbw hTK hxm hx hEs hm hek hW1 hbW hv1 hA5 hsd hsz1 hes
      go_wp2
      rw [← HW1.out, ← HSZ.out]
      go_region_held3 (fun w' => w'.cell? ⟨sz, 0, none⟩ = some (.int .i64 x.src) ∧ w'.cell? ⟨sz, 1, none⟩ = some (.string x.lab) ∧ w'.cell? ⟨sz, 2, none⟩ = some (.int .i64 x.dst) ∧ w'.cell? ⟨o, 2, none⟩ = some (.slice a4 LL c4))
        (first
          | (refine ⟨?_, ?_, ?_, ?_⟩ <;> assumption)
          | (refine ⟨?_, ?_, ?_, ?_⟩ <;> (rw [World.cell?_setCell_other _ _ _ _ (by simp)]; assumption))
          | go_keep)
        (first
          | (go_at_call 108; refine Calls.mono HIX.out ?_; rintro e w9 ⟨rfl, rfl⟩)
          | (refine step_append_lies _ (by rfl) _ _ _ (by rfl) W 62 ie _ 3 24 Tryz.underlying29 hie hie0 hie1 hie2 rfl (by omega) (.slice ae k ce) k (Es.flatMap encE) (by rfl) HE2.out ⟨sz + 1, 0, none⟩ 1 1 [.int .i64 x.src, .int .i64 m, .int .i64 x.dst] (by rfl) (by rfl) (World.news_of_block (cs := #[.int .i64 x.src, .int .i64 m, .int .i64 x.dst]) (t := 62) (fr := (0, 0)) hnew) (by simp [Value.oneCell']) (by omega) (by first | omega | (simp [maxLen]; omega)) (by first | omega | (simp; omega)) (by first | omega | (simp; omega)) (sz + 2) (by first | omega | (simp; omega)) ?_; intro gg cap w5 hown5 hgrow5 hat5 hlt5; have z0 := (hgrow5.cell_far ⟨sz, 0, none⟩ (by simp; omega) n0).trans R0; have z1 := (hgrow5.cell_far ⟨sz, 1, none⟩ (by simp; omega) n0).trans R1; have z2 := (hgrow5.cell_far ⟨sz, 2, none⟩ (by simp; omega) n0).trans R2; have z3 := (hgrow5.cell_far ⟨o, 2, none⟩ (by simp; omega) n3).trans R3; have z5 := (hgrow5.cell_far ⟨o, 3, none⟩ (by simp; omega) n3).trans R5; have z6 := (hgrow5.frozen_far ⟨o, 3, none⟩ (by simp; omega) n3).trans R6))
      all_goals (
        obtain ⟨ev', hev'⟩ : ∃ ev', ev' = Value.slice (some ⟨gg, 0, none⟩) (k + 1) cap := ⟨_, rfl⟩
        rw [← hev'] at hown5 ⊢
        have HP := Lib.hid (LtsSt.push (x := edgeIn L x) HS.out (by omega) (by rw [← HSZ.out]; exact hsz) (by omega) HBT.out hgrow5 (by rw [HES.out, HEK.out]; exact hown5))
        clear hown5 hgrow5 hat5 hlt5 z0 z1 z2 z3 z5 z6 P0 P1 P2 P3 P5 R0 R1 R2 R3 R5 R6 hnew hev'
        go_wp2
        go_roundw
        case rel => exact ⟨k + 1, ev', by go_num, by omega, by rw [HTK.out]; exact HP.out⟩
        case measure => simp [intOf]; omega)
    · have hkN : k = NX := by omega
      obtain ⟨E, hEE⟩ : ∃ E, E = xs.map (edgeIn L) := ⟨_, rfl⟩
      have hes : (xs.take k).map (edgeIn L) = E := by rw [hkN, HNX.out, List.take_length, hEE]
      rw [hes] at hst HS
      rw [← hEE] at HRE
      have HEE := Lib.hid hEE
      have hel : E.length ≤ 1048576 := by rw [hEE, List.length_map, ← HNX.out]; omega
      have HSO := Lib.hid (SortE_own W (.slice ae E.length ce) E wr hst.edges HRE.out hel)
      have x3 := hst.out.cell 3 rfl
      have HEL := Lib.hid hel
      clear hst hes hEE hel
      go_wp2_with fail
      refine Calls.mono HSO.out ?_
      rintro e6 w6 ⟨rfl, hb6⟩
      have HX6 := Lib.hid (HS.out.out.below hb6)
      have HR6 := Lib.hid (HS.out.res.below hb6)
      have HL6 := Lib.hid (owns_below HS.out.labels hb6)
      have HE6 := Lib.hid (owns_below HS.out.edges hb6)
      have HB6 := Lib.hid (HS.out.below.trans (hb6.mono hsz))
      have HCO := Lib.hid (CompactE_own W (.slice ae E.length ce) E w6 HE6.out HRE.out HEL.out)
      have x6 := HX6.out.cell 3 rfl
      have hs6 : W ≤ w6.heap.size := Nat.le_trans hsz hb6.size
      clear hb6 x3 HSO HS
      go_wp2_with fail
      refine Calls.mono HCO.out ?_
      rintro e7 w7 ⟨rfl, hb7⟩
      have HX7 := Lib.hid (HX6.out.below hb7)
      have HR7 := Lib.hid (HR6.out.below hb7)
      have HL7 := Lib.hid (owns_below HL6.out hb7)
      have HE7 := Lib.hid (owns_below HE6.out hb7)
      have HB7 := Lib.hid (HB6.out.trans (hb7.mono hs6))
      clear hb7 HCO x6 HX6 HR6 HL6 HE6 HB6
      have o0 := HX7.out.cell 0 rfl
      have o1 := HX7.out.cell 1 rfl
      have o2 := HX7.out.cell 2 rfl
      have o3 := HX7.out.cell 3 rfl
      have z7 := HX7.out.frozen 3
      have r0 := HR7.out.cell 0 rfl
      have r1 := HR7.out.cell 1 rfl
      have r2 := HR7.out.cell 2 rfl
      have r3 := HR7.out.cell 3 rfl
      have s0 := HR7.out.frozen 0
      have s1 := HR7.out.frozen 1
      have s2 := HR7.out.frozen 2
      have s3 := HR7.out.frozen 3
      have hneW : W ≠ o := by omega
      have hneO : o ≠ W := by omega
      obtain ⟨EL, hEL⟩ : ∃ EL, EL = E.length := ⟨_, rfl⟩
      rw [← hEL] at o3 HX7 HE7 ⊢
      have HELL := Lib.hid hEL
      clear hEL
      go_wp2
      have hR0 := HR7.out.setOther ⟨o, 3, none⟩ (.slice ae EL ce) hneW
      have hR1 := hR0.set 0 (.int .i64 n)
      have hR2 := hR1.set 1 (.int .i64 i)
      have hR3 := hR2.set 2 (.slice a4 LL c4)
      have hWo : W ≤ o := by omega
      refine bodyPost_ret (lts_results rfl (hR3.set 3 (.slice ae EL ce))) rfl ?_
      rw [← HEE.out]
      refine ⟨_, _, rfl, ?_, ?_, ?_⟩
      · rw [← HW.out]
        exact ((((HB7.out.setCell hWo _).setCell (Nat.le_refl _) _).setCell (Nat.le_refl _) _).setCell (Nat.le_refl _) _).setCell (Nat.le_refl _) _
      · rw [← HW.out]
        have h1 := HL7.out
        exact own_sets (own_sets (own_sets (own_sets (own_sets h1 HX7.out (by decide) 3 _) hR0 (by decide) 0 _) hR1 (by decide) 1 _) hR2 (by decide) 2 _) hR3 (by decide) 3 _
      · rw [← HW.out, ← HELL.out]
        have h1 := HE7.out
        exact own_sets (own_sets (own_sets (own_sets (own_sets h1 HX7.out (by decide) 3 _) hR0 (by decide) 0 _) hR1 (by decide) 1 _) hR2 (by decide) 2 _) hR3 (by decide) 3 _

end Go.Proofs.YtbbffbnfppbibaaGreatDoor

namespace Go.Proofs.YtbbffbnfppbibaaGreatDoor
open Go Go.RowKit

/-- Ascending, and no edge behind the label number j of the row n. -/
def EdgesUp (n j : Int) (es : List Edge) : Prop := es.Pairwise (fun a b => a.src < b.src ∨ (a.src = b.src ∧ a.lab < b.lab)) ∧ ∀ e ∈ es, e.src < n ∨ (e.src = n ∧ e.lab ≤ j)
theorem EdgesUp.step {t : Lts} {i k : Nat} {cur : List Int} {st : DNet} (h : EdgesUp i k st.edges) : EdgesUp i ((k : Int) + 1) (dstep t i cur st k).edges := by
  unfold dstep
  split
  · exact ⟨h.1, fun e he => by rcases h.2 e he with h | h <;> omega⟩
  · refine ⟨?_, fun e he => ?_⟩
    · show (st.edges ++ [_]).Pairwise _
      rw [List.pairwise_append]
      refine ⟨h.1, by simp, fun a ha b hb => ?_⟩
      rw [List.mem_singleton] at hb
      subst hb
      rcases h.2 a ha with h | h
      · exact .inl h
      · exact .inr ⟨h.1, by show a.lab < (k : Int) + 1; omega⟩
    · rcases List.mem_append.1 he with he | he
      · rcases h.2 e he with h | h <;> omega
      · rw [List.mem_singleton] at he
        subst he
        exact .inr ⟨rfl, Int.le_refl _⟩
theorem EdgesUp.mid {t : Lts} {i : Nat} {cur : List Int} {st : DNet} (h : EdgesUp i 0 st.edges) : ∀ j : Nat, EdgesUp i j (dmid t i cur st j).edges
  | 0 => by rw [dmid_zero]; exact h
  | j + 1 => by
    rw [dmid_succ]
    exact (EdgesUp.mid h j).step
theorem EdgesUp.at (t : Lts) : ∀ n : Nat, EdgesUp n 0 (dAt t n).edges
  | 0 => ⟨by simp [dAt], by simp [dAt]⟩
  | n + 1 => by
    have h := EdgesUp.at t n
    rw [dAt]
    unfold drow
    split
    · exact ⟨h.1, fun e he => by rcases h.2 e he with h | h <;> omega⟩
    · have h2 := EdgesUp.mid (t := t) (cur := by assumption) h (t.labels.length - 1)
      exact ⟨h2.1, fun e he => by rcases h2.2 e he with h | h <;> omega⟩

end Go.Proofs.YtbbffbnfppbibaaGreatDoor

namespace Go.Proofs.YtbbffbnfppbibaaGreatDoor
open Go Go.RowKit

theorem tauT_list : tauT.toList = tauB := by rw [Lib.toList_data]; rfl
theorem labels_pair {ls : List ByteArray} (h : LabelsOk ls) : (ls.map (·.data.toList)).Pairwise fun a b => lessL a b = true := by
  rw [List.pairwise_map, List.pairwise_iff_getElem]
  intro i j hi hj hij
  rw [← Lib.toList_data, ← Lib.toList_data, lessL_iff]
  have hne : ls[i].toList ≠ ls[j].toList := fun e => by have := labels_inj h i j hi hj e; omega
  refine ⟨hne, ?_⟩
  by_cases h0 : i = 0
  · subst h0; exact .inl (h.first hi)
  · refine .inr ⟨h.other j hj (by omega), ?_⟩
    have := labels_less h i j (by omega) hij hj
    unfold strLess at this
    rw [less_lt, decide_eq_true_eq] at this
    exact this
/-- Labels in strict order, tau among them. -/
theorem labelsOk_of {L : List ByteArray} (hp : (L.map (·.data.toList)).Pairwise fun a b => lessL a b = true) (ht : tauT ∈ L) (hn : L.length ≤ 12) (hok : ∀ l ∈ L, l ≠ tauT → labelOk l.data.toList = true) : LabelsOk L := by
  rw [List.pairwise_map, List.pairwise_iff_getElem] at hp
  obtain ⟨k, hk, hkt⟩ := List.mem_iff_getElem.1 ht
  have h0 : k = 0 := by
    rcases Nat.eq_zero_or_pos k with h | h
    · exact h
    · have := hp 0 k (by omega) hk h
      rw [hkt, ← Lib.toList_data, ← Lib.toList_data, tauT_list, lessL_iff] at this
      rcases this.2 with h1 | h1
      · exact absurd h1 this.1
      · exact absurd rfl h1.1
  subst h0
  have hoth : ∀ i (h : i < L.length), 1 ≤ i → L[i].toList ≠ tauB := fun i hi h1 e => by
    have := hp 0 i hk hi (by omega)
    rw [hkt, ← Lib.toList_data, ← Lib.toList_data, tauT_list, e, lessL_irrefl] at this
    cases this
  refine ⟨by omega, hn, fun h => by rw [hkt, tauT_list], fun i hi h1 => hok _ (List.getElem_mem hi) (fun e => hoth i hi h1 (by rw [e, tauT_list])), hoth, fun i hi h1 => ?_⟩
  have := hp i (i + 1) (by omega) hi (by omega)
  rw [← Lib.toList_data, ← Lib.toList_data, lessL_iff] at this
  unfold strLess
  rw [less_lt, decide_eq_true_eq]
  rcases this.2 with h2 | h2
  · exact absurd h2 (hoth i (by omega) h1)
  · exact h2.2

/-- The labels in use. -/
theorem used_is {ls us : List ByteArray} (h : LabelsOk ls) (hu : ∀ l ∈ us, l ∈ ls) : LabelsOk (labSet (tauT :: us)) ∧ (∀ l, l ∈ labSet (tauT :: us) ↔ l ∈ tauT :: us) := by
  have h0 : tauT ∈ ls := by
    have : ls[0]'h.pos = tauT := toList_inj (by rw [h.first h.pos, tauT_list])
    rw [← this]
    exact List.getElem_mem _
  have he : labSet (tauT :: us) = ls.filter fun l => @decide (l ∈ tauT :: us) (Classical.propDecidable _) := by
    refine labSet_eq ?_ fun x => ?_
    · rw [List.pairwise_map]
      exact List.Pairwise.filter _ (List.pairwise_map.1 (labels_pair h))
    · rw [List.mem_filter, @decide_eq_true_eq _ (Classical.propDecidable _)]
      refine ⟨fun hx => ⟨?_, hx⟩, fun hx => hx.2⟩
      rcases List.mem_cons.1 hx with rfl | hx
      · exact h0
      · exact hu x hx
  have hm : ∀ l, l ∈ labSet (tauT :: us) ↔ l ∈ tauT :: us := fun l => by
    rw [he, List.mem_filter, @decide_eq_true_eq _ (Classical.propDecidable _)]
    refine ⟨fun hx => hx.2, fun hx => ⟨?_, hx⟩⟩
    rcases List.mem_cons.1 hx with rfl | hx
    · exact h0
    · exact hu l hx
  refine ⟨labelsOk_of ?_ ((hm _).2 (by simp)) ?_ fun l hl hne => ?_, hm⟩
  · rw [he, List.pairwise_map]
    exact List.Pairwise.filter _ (List.pairwise_map.1 (labels_pair h))
  · rw [he]
    exact Nat.le_trans (List.length_filter_le _ _) h.most
  · have : l ∈ ls := by
      rcases List.mem_cons.1 ((hm l).1 hl) with rfl | hx
      · exact absurd rfl hne
      · exact hu l hx
    obtain ⟨i, hi, rfl⟩ := List.mem_iff_getElem.1 this
    rcases Nat.eq_zero_or_pos i with h1 | h1
    · subst h1
      exact absurd (toList_inj (by rw [h.first hi, tauT_list])) hne
    · exact h.label i hi h1
theorem all_used {ls : List ByteArray} (h : LabelsOk ls) : labSet (tauT :: ls) = ls := by
  refine labSet_eq (labels_pair h) fun x => ?_
  have h0 : tauT ∈ ls := by
    have : ls[0]'h.pos = tauT := toList_inj (by rw [h.first h.pos, tauT_list])
    rw [← this]
    exact List.getElem_mem _
  rw [List.mem_cons]
  exact ⟨fun hx => hx.elim (fun e => e ▸ h0) id, .inr⟩

/-- In a list of labels in order, places go with the order. -/
theorem idxL_mono {L : List ByteArray} (h : LabelsOk L) {a b : ByteArray} (ha : a ∈ L) (hb : b ∈ L) (hl : lessL a.toList b.toList = true) : idxL L a < idxL L b := by
  obtain ⟨h1, h2, -⟩ := idxL_get ha
  obtain ⟨h3, h4, -⟩ := idxL_get hb
  have hp := labels_pair h
  rw [List.pairwise_map, List.pairwise_iff_getElem] at hp
  rcases Nat.lt_trichotomy (idxL L a) (idxL L b) with h5 | h5 | h5
  · exact h5
  · exfalso
    have : a = b := by rw [← h2, ← h4]; congr 1
    rw [this, lessL_irrefl] at hl
    cases hl
  · exfalso
    have := hp _ _ h3 h1 h5
    rw [h2, h4, ← Lib.toList_data, ← Lib.toList_data] at this
    have h6 := lessL_trans _ _ _ hl this
    rw [lessL_irrefl] at h6
    cases h6
theorem idxL_at {L : List ByteArray} (h : LabelsOk L) {k : Nat} (hk : k < L.length) : idxL L L[k] = k := by
  obtain ⟨h1, h2, -⟩ := idxL_get (List.getElem_mem hk)
  exact labels_inj h _ _ h1 hk (by rw [h2])

/-- The arcs of the net found. -/
def arcsOf (t : Lts) (st : DNet) : List Arc := st.edges.map (arcOf t)
theorem lab_get {t : Lts} {st : DNet} (hG : DGood t st) {e : Edge} (he : e ∈ st.edges) : ∃ h : e.lab.toNat < t.labels.length, labAt t e = t.labels[e.lab.toNat] ∧ (e.lab.toNat : Int) = e.lab := by
  have := hG.edges e he
  refine ⟨by omega, ?_, by omega⟩
  unfold labAt
  rw [List.getD_eq_getElem?_getD, List.getElem?_eq_getElem (by omega)]
  rfl
theorem edge_back {t : Lts} (hv : Valid t) {st : DNet} (hG : DGood t st) : (arcsOf t st).map (edgeIn t.labels) = st.edges := by
  unfold arcsOf
  rw [List.map_map]
  conv => rhs; rw [← List.map_id st.edges]
  apply List.map_congr_left
  intro e he
  obtain ⟨h1, h2, h3⟩ := lab_get hG he
  simp only [Function.comp, edgeIn, arcOf, id]
  rw [h2, idxL_at hv.labels h1, h3]
def Up (es : List Edge) : Prop := es.Pairwise fun a b => a.src < b.src ∨ (a.src = b.src ∧ a.lab < b.lab)
theorem up_at (t : Lts) (n : Nat) : Up (dAt t n).edges := (EdgesUp.at t n).1
theorem rise_up {es : List Edge} (h : Up es) : RiseE es := h.imp fun {a b} h => by rw [edgeLess_iff]; omega
theorem rise_in {t : Lts} (hv : Valid t) {st : DNet} (hG : DGood t st) (hu : Up st.edges) {L : List ByteArray} (hL : LabelsOk L) (hm : ∀ e ∈ st.edges, labAt t e ∈ L) : RiseE ((arcsOf t st).map (edgeIn L)) := by
  unfold arcsOf RiseE
  rw [List.map_map, List.pairwise_map]
  refine List.Pairwise.imp_of_mem ?_ hu
  intro a b ha hb h
  rw [edgeLess_iff]
  rcases h with h | ⟨h, h2⟩
  · exact .inl h
  · refine .inr ⟨h, .inl ?_⟩
    obtain ⟨a1, a2, a3⟩ := lab_get hG ha
    obtain ⟨b1, b2, b3⟩ := lab_get hG hb
    have hp := labels_pair hv.labels
    rw [List.pairwise_map, List.pairwise_iff_getElem] at hp
    have h3 := hp _ _ a1 b1 (by omega)
    rw [← a2, ← b2, ← Lib.toList_data, ← Lib.toList_data] at h3
    have := idxL_mono hL (hm a ha) (hm b hb) h3
    simp only [Function.comp, edgeIn, arcOf]
    omega

/-- The system by the labels in use. -/
def sysOf (t : Lts) (st : DNet) : Lts := ⟨st.rows.length, 0, labSet (tauT :: (arcsOf t st).map Arc.lab), (arcsOf t st).map (edgeIn (labSet (tauT :: (arcsOf t st).map Arc.lab)))⟩
theorem used_mem {t : Lts} {st : DNet} (hG : DGood t st) : ∀ l ∈ (arcsOf t st).map Arc.lab, l ∈ t.labels := by
  intro l hl
  unfold arcsOf at hl
  rw [List.map_map, List.mem_map] at hl
  obtain ⟨e, he, rfl⟩ := hl
  obtain ⟨h1, h2, -⟩ := lab_get hG he
  simp only [Function.comp, arcOf]
  rw [h2]
  exact List.getElem_mem _
theorem arc_mem {t : Lts} (hv : Valid t) {st : DNet} (hG : DGood t st) : ∀ a ∈ arcsOf t st, a.lab ∈ (sysOf t st).labels := fun a ha => ((used_is hv.labels (used_mem hG)).2 _).2 (List.mem_cons_of_mem _ (List.mem_map.2 ⟨a, ha, rfl⟩))
theorem sys_rise {t : Lts} (hv : Valid t) {st : DNet} (hG : DGood t st) (hu : Up st.edges) : RiseE (sysOf t st).edges :=
  rise_in hv hG hu (used_is hv.labels (used_mem hG)).1 fun e he => arc_mem hv hG _ (List.mem_map.2 ⟨e, he, rfl⟩)
theorem sys_edge {t : Lts} (hv : Valid t) {st : DNet} (hG : DGood t st) : ∀ i (h : i < (sysOf t st).edges.length), EdgeOk (sysOf t st) (sysOf t st).edges[i] := by
  intro i hi
  have hi' : i < st.edges.length := by simpa [sysOf, arcsOf] using hi
  have he := List.getElem_mem hi'
  have h1 := hG.edges _ he
  have h2 := arc_mem hv hG (arcOf t st.edges[i]) (List.mem_map.2 ⟨_, he, rfl⟩)
  obtain ⟨h3, -, -⟩ := idxL_get h2
  have h4 : (sysOf t st).edges[i] = ⟨st.edges[i].src, (idxL (sysOf t st).labels (labAt t st.edges[i]) : Nat), st.edges[i].dst⟩ := by simp [sysOf, arcsOf, edgeIn, arcOf]
  rw [h4]
  refine ⟨h1.1.1, h1.1.2, h1.2.2.1, h1.2.2.2, by show (0 : Int) ≤ ((idxL _ _ : Nat) : Int); omega, ?_⟩
  show ((idxL (sysOf t st).labels (labAt t st.edges[i]) : Nat) : Int) < _
  have h5 : idxL (sysOf t st).labels (labAt t st.edges[i]) < (sysOf t st).labels.length := h3
  omega
theorem sys_valid {t : Lts} (hv : Valid t) {st : DNet} (hG : DGood t st) (hu : Up st.edges) : Valid (sysOf t st) ↔ DSmall st := by
  have hel : (sysOf t st).edges.length = st.edges.length := by simp [sysOf, arcsOf]
  constructor
  · intro h
    refine ⟨?_, by have := h.most; omega⟩
    have := h.st1
    have h2 : (sysOf t st).states = (st.rows.length : Int) := rfl
    omega
  · rintro ⟨h1, h2⟩
    have h0 := hG.some
    refine ⟨by show (1 : Int) ≤ (st.rows.length : Int); omega, by show (st.rows.length : Int) ≤ 40; omega, Int.le_refl 0, by show (0 : Int) < (st.rows.length : Int); omega, (used_is hv.labels (used_mem hG)).1, by omega, sys_edge hv hG, fun i hi => ?_⟩
    exact List.pairwise_iff_getElem.1 (sys_rise hv hG hu) i (i + 1) (by omega) hi (by omega)
theorem sys_arcs {t : Lts} (hv : Valid t) {st : DNet} (hG : DGood t st) : (sysOf t st).edges.map (arcOf (sysOf t st)) = arcsOf t st := by
  show ((arcsOf t st).map _).map _ = _
  rw [List.map_map]
  conv => rhs; rw [← List.map_id (arcsOf t st)]
  apply List.map_congr_left
  intro a ha
  obtain ⟨h1, h2, -⟩ := idxL_get (arc_mem hv hG a ha)
  simp only [Function.comp, edgeIn, arcOf, id, labAt]
  rw [Int.toNat_natCast]
  have : (sysOf t st).labels.getD (idxL (sysOf t st).labels a.lab) ByteArray.empty = a.lab := by rw [List.getD_eq_getElem?_getD, List.getElem?_eq_getElem h1, Option.getD_some, h2]
  show Arc.mk a.src ((sysOf t st).labels.getD (idxL (sysOf t st).labels a.lab) ByteArray.empty) a.dst = a
  rw [this]

end Go.Proofs.YtbbffbnfppbibaaGreatDoor
